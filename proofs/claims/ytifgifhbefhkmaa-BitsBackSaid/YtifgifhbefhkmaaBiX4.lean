/- Sets of tracks, two of them: Or and Minus, told. No conditions. -/
import Derived.Test.YtifgifhbefhkmaaProg
import Derived.KernelRfl
import Derived.Test.YtifgifhbefhkmaaBiX3
import Derived.Test.YtifgifhbefhkmaaBiX1
/- Sets of tracks, two of them: Or and Minus, told. No conditions. -/
namespace Go.Proofs.Ytifgifhbefhkmaa.VM
open Go Go.RowKit
set_option linter.unusedVariables false
set_option linter.unusedSimpArgs false
set_option maxRecDepth 100000
noncomputable section
def cfB : Cfg := ⟨fun _ => false, fun _ => false, fun f => bif Nat.beq f 49 then some (liftG fun k base vs => vcall Try.prog cf0 k f base vs) else none⟩
def ctChks : SCall := Ct (fun a : Int × List Int × List Int => [.int .i64 (.sym a.1), .slI false (.lit [row a.2.1, row a.2.2]) (.lit 2) true]) (fun a => By a.2.1 ∧ By a.2.2 ∧ a.2.1.length ≤ 1000 ∧ a.2.2.length ≤ 1000) (fun a => .int .i64 (.sym (firstE a.1 a.2.1 a.2.2)))
def orP (n : Int) (s u : List Int) : List Int := if firstE n s u = 0 then List.zipWith orN s u else []
def miP (n : Int) (s u : List Int) : List Int := if firstE n s u = 0 then List.zipWith andN s u else []
def ctOrP : SCall := Ct (fun a : Int × List Int × List Int => [.int .i64 (.sym a.1), row a.2.1, row a.2.2]) (fun a => By a.2.1 ∧ By a.2.2 ∧ a.2.1.length ≤ 1000 ∧ a.2.2.length ≤ 1000) (fun a => .tup [row (orP a.1 a.2.1 a.2.2), .int .i64 (.sym (firstE a.1 a.2.1 a.2.2))])
def ctMiP : SCall := Ct (fun a : Int × List Int × List Int => [.int .i64 (.sym a.1), row a.2.1, row a.2.2]) (fun a => By a.2.1 ∧ By a.2.2 ∧ a.2.1.length ≤ 1000 ∧ a.2.2.length ≤ 1000) (fun a => .tup [row (miP a.1 a.2.1 a.2.2), .int .i64 (.sym (firstE a.1 a.2.1 a.2.2))])
def sxJ : SX := ⟨rowT, ctOf [(49, ctChks)], lpOf [(6, ⟨30, 0, fun _ _ => Stuck 999⟩)]⟩
def sxJ1 (n p u : Int) : SX := ⟨rowT, ctOf [(49, one49 n (lit1 p) (lit1 u) 0)], lpOf []⟩
def sxJ2 (n p q u w : Int) : SX := ⟨rowT, ctOf [(49, one49 n (lit2 p q) (lit2 u w) 0)], lpOf []⟩
theorem vc_OrE (n : Int) (s u : List Int) (x : Int) : (scallI sxJ Try.prog cfB (sexec sxJ Try.prog cfB 1000) 10 0 [.int .i64 (.sym n), row s, row u] (post (.tup [row [], .int .i64 (.sym x)]))) = (∃ (y4 : Int × List Int × List Int), (n = Prod.fst y4 ∧ ((2 : Nat) = (2 : Nat) ∧ (List.length s = List.length (Prod.fst (Prod.snd y4)) ∧ SC.rows eB (1 : Nat) (1 : Nat) true s = SC.rows eB (1 : Nat) (1
: Nat) true (Prod.fst (Prod.snd y4))) ∧ (List.length u = List.length (Prod.snd (Prod.snd y4)) ∧ SC.rows eB (1 : Nat) (1 : Nat) true u = SC.rows eB (1 : Nat) (1 : Nat) true (Prod.snd (Prod.snd y4))) ∧
True) ∧ True) ∧ ((∀ (y5 : Int), y5 ∈ Prod.fst (Prod.snd y4) → (0 : Int) ≤ y5 ∧ y5 < (256 : Int)) ∧ (∀ (y5 : Int), y5 ∈ Prod.snd (Prod.snd y4) → (0 : Int) ≤ y5 ∧ y5 < (256 : Int)) ∧ List.length
(Prod.fst (Prod.snd y4)) ≤ (1000 : Nat) ∧ List.length (Prod.snd (Prod.snd y4)) ≤ (1000 : Nat)) ∧ (¬firstE (Prod.fst y4) (Prod.fst (Prod.snd y4)) (Prod.snd (Prod.snd y4)) = (0 : Int) → ((0 : Nat) = (0
: Nat) ∧ ∀ (y5 : Int), List.length (eB y5) = (1 : Nat) ∧ (∀ (y6 : SV), y6 ∈ eB y5 → imm (1 : Nat) y6 ∧ SV.one y6 = true) ∧ (true = true → ∀ (y6 : SV), y6 ∈ eB y5 → scalar y6)) ∧ firstE (Prod.fst y4)
(Prod.fst (Prod.snd y4)) (Prod.snd (Prod.snd y4)) = x ∧ True) ∧ (¬¬firstE (Prod.fst y4) (Prod.fst (Prod.snd y4)) (Prod.snd (Prod.snd y4)) = (0 : Int) → (0 : Int) ≤ (↑(List.length s) : Int) ∧
(↑(List.length s) : Int) ≤ (↑(List.length s) : Int) ∧ (↑(List.length s) : Int) ≤ (1099511627776 : Int) ∧ ROK (SRow.r (SRow.mk Int eB (1 : Nat) (1 : Nat) true (0 : Int))) (1 : Nat) (1 : Nat) (SRow.fl
(SRow.mk Int eB (1 : Nat) (1 : Nat) true (0 : Int))) ∧ ((0 : Int) = (0 : Int) ∧ True) ∧ SameCode (loopBody Try.prog (30 : Nat) (0 : Nat)) (loopBody Try.prog (30 : Nat) (0 : Nat)) ∧ Stuck (999 : Nat))) := by kernel_rfl
theorem vc_MiE (n : Int) (s u : List Int) (x : Int) : (scallI sxJ Try.prog cfB (sexec sxJ Try.prog cfB 1000) 12 0 [.int .i64 (.sym n), row s, row u] (post (.tup [row [], .int .i64 (.sym x)]))) = (∃ (y4 : Int × List Int × List Int), (n = Prod.fst y4 ∧ ((2 : Nat) = (2 : Nat) ∧ (List.length s = List.length (Prod.fst (Prod.snd y4)) ∧ SC.rows eB (1 : Nat) (1 : Nat) true s = SC.rows eB (1 : Nat) (1
: Nat) true (Prod.fst (Prod.snd y4))) ∧ (List.length u = List.length (Prod.snd (Prod.snd y4)) ∧ SC.rows eB (1 : Nat) (1 : Nat) true u = SC.rows eB (1 : Nat) (1 : Nat) true (Prod.snd (Prod.snd y4))) ∧
True) ∧ True) ∧ ((∀ (y5 : Int), y5 ∈ Prod.fst (Prod.snd y4) → (0 : Int) ≤ y5 ∧ y5 < (256 : Int)) ∧ (∀ (y5 : Int), y5 ∈ Prod.snd (Prod.snd y4) → (0 : Int) ≤ y5 ∧ y5 < (256 : Int)) ∧ List.length
(Prod.fst (Prod.snd y4)) ≤ (1000 : Nat) ∧ List.length (Prod.snd (Prod.snd y4)) ≤ (1000 : Nat)) ∧ (¬firstE (Prod.fst y4) (Prod.fst (Prod.snd y4)) (Prod.snd (Prod.snd y4)) = (0 : Int) → ((0 : Nat) = (0
: Nat) ∧ ∀ (y5 : Int), List.length (eB y5) = (1 : Nat) ∧ (∀ (y6 : SV), y6 ∈ eB y5 → imm (1 : Nat) y6 ∧ SV.one y6 = true) ∧ (true = true → ∀ (y6 : SV), y6 ∈ eB y5 → scalar y6)) ∧ firstE (Prod.fst y4)
(Prod.fst (Prod.snd y4)) (Prod.snd (Prod.snd y4)) = x ∧ True) ∧ (¬¬firstE (Prod.fst y4) (Prod.fst (Prod.snd y4)) (Prod.snd (Prod.snd y4)) = (0 : Int) → (0 : Int) ≤ (↑(List.length s) : Int) ∧
(↑(List.length s) : Int) ≤ (↑(List.length s) : Int) ∧ (↑(List.length s) : Int) ≤ (1099511627776 : Int) ∧ ROK (SRow.r (SRow.mk Int eB (1 : Nat) (1 : Nat) true (0 : Int))) (1 : Nat) (1 : Nat) (SRow.fl
(SRow.mk Int eB (1 : Nat) (1 : Nat) true (0 : Int))) ∧ ((0 : Int) = (0 : Int) ∧ True) ∧ SameCode (loopBody Try.prog (30 : Nat) (0 : Nat)) (loopBody Try.prog (30 : Nat) (0 : Nat)) ∧ Stuck (999 : Nat))) := by kernel_rfl
theorem vc_OrP1 (n p u x : Int) : (scallI (sxJ1 n p u) Try.prog cfB (sexec (sxJ1 n p u) Try.prog cfB 1000) 10 0 [.int .i64 (.sym n), lit1 p, lit1 u] (post (.tup [row [x], .int .i64 (.lit 0)]))) = (∃ (y4 : Unit), (n = n ∧ ((2 : Nat) = (2 : Nat) ∧ ((1 : Nat) = (1 : Nat) ∧ p = p ∧ True) ∧ ((1 : Nat) = (1 : Nat) ∧ u = u ∧ True) ∧ True) ∧ True) ∧ True ∧ ((1 : Nat) = List.length [x] ∧ ROK eB (1 :
Nat) (1 : Nat) true ∧ IntKind.wrap IntKind.u8 (↑(Int.toNat (p % (256 : Int)) ||| Int.toNat (u % (256 : Int))) : Int) = x ∧ True) ∧ (0 : Int) = (0 : Int) ∧ True) := by kernel_rfl
theorem vc_MiP1 (n p u x : Int) : (scallI (sxJ1 n p u) Try.prog cfB (sexec (sxJ1 n p u) Try.prog cfB 1000) 12 0 [.int .i64 (.sym n), lit1 p, lit1 u] (post (.tup [row [x], .int .i64 (.lit 0)]))) = (∃ (y4 : Unit), (n = n ∧ ((2 : Nat) = (2 : Nat) ∧ ((1 : Nat) = (1 : Nat) ∧ p = p ∧ True) ∧ ((1 : Nat) = (1 : Nat) ∧ u = u ∧ True) ∧ True) ∧ True) ∧ True ∧ ((1 : Nat) = List.length [x] ∧ ROK eB (1 :
Nat) (1 : Nat) true ∧ IntKind.wrap IntKind.u8 (↑(BitVec.toNat (BitVec.ofInt (8 : Nat) p &&& ~~~BitVec.ofInt (8 : Nat) u)) : Int) = x ∧ True) ∧ (0 : Int) = (0 : Int) ∧ True) := by kernel_rfl
theorem vc_OrP2 (n p q u w x y : Int) : (scallI (sxJ2 n p q u w) Try.prog cfB (sexec (sxJ2 n p q u w) Try.prog cfB 1000) 10 0 [.int .i64 (.sym n), lit2 p q, lit2 u w] (post (.tup [row [x, y], .int .i64 (.lit 0)]))) = (∃ (y7 : Unit), (n = n ∧ ((2 : Nat) = (2 : Nat) ∧ ((2 : Nat) = (2 : Nat) ∧ p = p ∧ q = q ∧ True) ∧ ((2 : Nat) = (2 : Nat) ∧ u = u ∧ w = w ∧ True) ∧ True) ∧ True) ∧ True ∧ ((2 : Nat) = List.length [x,
y] ∧ ROK eB (1 : Nat) (1 : Nat) true ∧ IntKind.wrap IntKind.u8 (↑(Int.toNat (p % (256 : Int)) ||| Int.toNat (u % (256 : Int))) : Int) = x ∧ IntKind.wrap IntKind.u8 (↑(Int.toNat (q % (256 : Int)) |||
Int.toNat (w % (256 : Int))) : Int) = y ∧ True) ∧ (0 : Int) = (0 : Int) ∧ True) := by kernel_rfl
theorem vc_MiP2 (n p q u w x y : Int) : (scallI (sxJ2 n p q u w) Try.prog cfB (sexec (sxJ2 n p q u w) Try.prog cfB 1000) 12 0 [.int .i64 (.sym n), lit2 p q, lit2 u w] (post (.tup [row [x, y], .int .i64 (.lit 0)]))) = (∃ (y7 : Unit), (n = n ∧ ((2 : Nat) = (2 : Nat) ∧ ((2 : Nat) = (2 : Nat) ∧ p = p ∧ q = q ∧ True) ∧ ((2 : Nat) = (2 : Nat) ∧ u = u ∧ w = w ∧ True) ∧ True) ∧ True) ∧ True ∧ ((2 : Nat) = List.length [x,
y] ∧ ROK eB (1 : Nat) (1 : Nat) true ∧ IntKind.wrap IntKind.u8 (↑(BitVec.toNat (BitVec.ofInt (8 : Nat) p &&& ~~~BitVec.ofInt (8 : Nat) u)) : Int) = x ∧ IntKind.wrap IntKind.u8 (↑(BitVec.toNat
(BitVec.ofInt (8 : Nat) q &&& ~~~BitVec.ofInt (8 : Nat) w)) : Int) = y ∧ True) ∧ (0 : Int) = (0 : Int) ∧ True) := by kernel_rfl
theorem ct_chks : CtOK Try.prog cf0 49 ctChks := ct_vc (m := 1000) sxH_ok fun a h => chks_all a.1 a.2.1 a.2.2 h.1 h.2.1 h.2.2.1 h.2.2.2
theorem chksB_ok : CtOK Try.prog cfB 49 ctChks := ct_lift rfl ct_chks
theorem sxJ_ok (k : ∀ p ∈ [(6, (⟨30, 0, fun _ _ => Stuck 999⟩ : SLoop))], LpOK Try.prog cfB p.2.f p.2.k p.2.C) : SXOK Try.prog cfB sxJ := sxok_lp (all_cons chksB_ok all_nil) k
theorem stk_lp {P : Program} {cf : Cfg} {f k : Nat} : LpOK P cf f k (fun _ _ => Stuck 999) := fun _ _ h => by cases h
theorem firstE_good {n : Int} {s u : List Int} (h : firstE n s u = 0) : chkR n s = 0 ∧ chkR n u = 0 := by
  unfold firstE at h
  split at h
  · rename_i q; exact ⟨q, h⟩
  · rename_i q; exact absurd h q
theorem ROK_eB' (y : Int) : (eB y).length = 1 ∧ (∀ v, v ∈ eB y → imm 1 v ∧ SV.one v = true) ∧ (True → ∀ v, v ∈ eB y → scalar v) := ⟨(rokB y).1, (rokB y).2.1, fun _ => (rokB y).2.2 rfl⟩
theorem pair_ok {f : Nat} (g : Int → Int → Int) (hE : ∀ (n : Int) (s u : List Int) (x : Int), By s → By u → s.length ≤ 1000 → u.length ≤ 1000 → firstE n s u ≠ 0 → x = firstE n s u → scallI sxJ Try.prog cfB (sexec sxJ Try.prog cfB 1000) f 0 [.int .i64 (.sym n), row s, row u] (post (.tup [row [], .int .i64 (.sym x)])))
    (h1 : ∀ (n p u : Int), scallI (sxJ1 n p u) Try.prog cfB (sexec (sxJ1 n p u) Try.prog cfB 1000) f 0 [.int .i64 (.sym n), lit1 p, lit1 u] (post (.tup [row [g p u], .int .i64 (.lit 0)])))
    (h2 : ∀ (n p q u w : Int), scallI (sxJ2 n p q u w) Try.prog cfB (sexec (sxJ2 n p q u w) Try.prog cfB 1000) f 0 [.int .i64 (.sym n), lit2 p q, lit2 u w] (post (.tup [row [g p u, g q w], .int .i64 (.lit 0)]))) :
    CtOK Try.prog cfB f (Ct (fun a : Int × List Int × List Int => [.int .i64 (.sym a.1), row a.2.1, row a.2.2]) (fun a => By a.2.1 ∧ By a.2.2 ∧ a.2.1.length ≤ 1000 ∧ a.2.2.length ≤ 1000) (fun a => .tup [row (if firstE a.1 a.2.1 a.2.2 = 0 then List.zipWith g a.2.1 a.2.2 else []), .int .i64 (.sym (firstE a.1 a.2.1 a.2.2))])) := by
  intro base bs K hK as' has vbase
  obtain ⟨⟨n, s, u⟩, k1, ⟨hs, hu, ls, lu⟩, k3⟩ := hK
  have hs : By s := hs
  have hu : By u := hu
  have ls : s.length ≤ 1000 := ls
  have lu : u.length ≤ 1000 := lu
  have hr := sles_rel k1 has
  have go : ∀ {sx : SX} {as1 : List SV} {r : SV}, SXOK Try.prog cfB sx → scallI sx Try.prog cfB (sexec sx Try.prog cfB 1000) f 0 as1 (post r) → sles [.int .i64 (.sym n), row s, row u] as1 → (∀ {ε : Nat → Option BE} {v : V}, RV ε r v → RV ε (.tup [row (if firstE n s u = 0 then List.zipWith g s u else []), .int .i64 (.sym (firstE n s u))]) v) →
      ∃ rv blks srv sblks, (∃ N, ∀ n, N ≤ n → callI Try.prog cfB (exec Try.prog cfB n) f vbase as' = some (rv, blks)) ∧ K srv sblks ∧ NewR (newsE noE base vbase sblks.length) sblks blks ∧ RV (newsE noE base vbase sblks.length) srv rv := by
    intro sx as1 r hsx hc hle hv
    obtain ⟨rv, blks, srv, sblks, hN, g1, g2, g3⟩ := scallI_of hsx (sexec_of hsx 1000) f 0 as1 _ hc as' (sles_rel hle hr) vbase
    obtain ⟨g4, g5⟩ := post_of g1
    subst g4
    cases g2
    rw [show newsE noE 0 vbase ([] : List SBlk).length = noE from newsE_zero] at g3
    refine ⟨rv, [], _, [], hN, k3, .nil, ?_⟩
    rw [show newsE noE base vbase ([] : List SBlk).length = noE from newsE_zero]
    exact hv (sle_rel 12 _ _ _ g5 g3)
  by_cases h0 : firstE n s u = 0
  · obtain ⟨c1, c2⟩ := firstE_good h0
    obtain ⟨n1, n2, n3, _⟩ := chkR_good c1
    obtain ⟨_, _, m3, _⟩ := chkR_good c2
    by_cases h8 : n ≤ 8
    · obtain ⟨p, rfl, hp⟩ := nat_list1 hs (by rw [n3]; unfold pages; omega)
      obtain ⟨x, rfl, hx⟩ := nat_list1 hu (by rw [m3]; unfold pages; omega)
      refine go (sxok_of (all_cons (ct_one chksB_ok (n, [(p : Int)], [(x : Int)]) ⟨hs, hu, ls, lu⟩ (r := .int .i64 (.lit 0)) (by show sle 12 (.int .i64 (.sym (firstE n [(p : Int)] [(x : Int)]))) _; rw [h0]; rfl) (as0 := [.int .i64 (.sym n), .slI false (.lit [lit1 p, lit1 x]) (.lit 2) true]) ⟨rfl, ⟨rfl, ⟨rfl, rokB, rfl, trivial⟩, ⟨rfl, rokB, rfl, trivial⟩, trivial⟩, trivial⟩) all_nil) all_nil) (h1 n p x) ⟨rfl, ⟨rfl, rfl, trivial⟩, ⟨rfl, rfl, trivial⟩, trivial⟩ fun hv => ?_
      rw [if_pos h0, h0]
      exact sle_rel 12 _ _ _ (by exact ⟨⟨rfl, rfl⟩, rfl, trivial⟩) hv
    · obtain ⟨p, q, rfl, hp, hq⟩ := nat_list2 hs (by rw [n3]; unfold pages; omega)
      obtain ⟨x, y, rfl, hx, hy⟩ := nat_list2 hu (by rw [m3]; unfold pages; omega)
      refine go (sxok_of (all_cons (ct_one chksB_ok (n, [(p : Int), (q : Int)], [(x : Int), (y : Int)]) ⟨hs, hu, ls, lu⟩ (r := .int .i64 (.lit 0)) (by show sle 12 (.int .i64 (.sym (firstE n [(p : Int), (q : Int)] [(x : Int), (y : Int)]))) _; rw [h0]; rfl) (as0 := [.int .i64 (.sym n), .slI false (.lit [lit2 p q, lit2 x y]) (.lit 2) true]) ⟨rfl, ⟨rfl, ⟨rfl, rokB, rfl, rfl, trivial⟩, ⟨rfl, rokB, rfl, rfl, trivial⟩, trivial⟩, trivial⟩) all_nil) all_nil) (h2 n p q x y) ⟨rfl, ⟨rfl, rfl, rfl, trivial⟩, ⟨rfl, rfl, rfl, trivial⟩, trivial⟩ fun hv => ?_
      rw [if_pos h0, h0]
      exact sle_rel 12 _ _ _ (by exact ⟨⟨rfl, rfl⟩, rfl, trivial⟩) hv
  · refine go (sxJ_ok (all_cons stk_lp all_nil)) (hE n s u _ hs hu ls lu h0 rfl) ⟨rfl, ⟨rfl, rfl⟩, ⟨rfl, rfl⟩, trivial⟩ fun hv => ?_
    rw [if_neg h0]
    exact hv
theorem orP_ok : CtOK Try.prog cfB 10 ctOrP := pair_ok orN (fun n s u x hs hu ls lu h0 hx => by
    rw [vc_OrE]
    simp only [true_and, and_true, eq_self, implies_true]
    exact Exists.intro (n, s, u) ⟨⟨rfl, ⟨rfl, rfl⟩, rfl, rfl⟩, ⟨hs, hu, ls, lu⟩, fun _ => ⟨ROK_eB', hx.symm⟩, fun q => absurd h0 q⟩)
  (fun n p u => by
    rw [vc_OrP1]
    exact Exists.intro () ⟨⟨rfl, ⟨rfl, ⟨rfl, rfl, trivial⟩, ⟨rfl, rfl, trivial⟩, trivial⟩, trivial⟩, trivial, ⟨rfl, rokB, rfl, trivial⟩, rfl, trivial⟩)
  (fun n p q u w => by
    rw [vc_OrP2]
    exact Exists.intro () ⟨⟨rfl, ⟨rfl, ⟨rfl, rfl, rfl, trivial⟩, ⟨rfl, rfl, rfl, trivial⟩, trivial⟩, trivial⟩, trivial, ⟨rfl, rokB, rfl, rfl, trivial⟩, rfl, trivial⟩)
theorem miP_ok : CtOK Try.prog cfB 12 ctMiP := pair_ok andN (fun n s u x hs hu ls lu h0 hx => by
    rw [vc_MiE]
    simp only [true_and, and_true, eq_self, implies_true]
    exact Exists.intro (n, s, u) ⟨⟨rfl, ⟨rfl, rfl⟩, rfl, rfl⟩, ⟨hs, hu, ls, lu⟩, fun _ => ⟨ROK_eB', hx.symm⟩, fun q => absurd h0 q⟩)
  (fun n p u => by
    rw [vc_MiP1]
    exact Exists.intro () ⟨⟨rfl, ⟨rfl, ⟨rfl, rfl, trivial⟩, ⟨rfl, rfl, trivial⟩, trivial⟩, trivial⟩, trivial, ⟨rfl, rokB, rfl, trivial⟩, rfl, trivial⟩)
  (fun n p q u w => by
    rw [vc_MiP2]
    exact Exists.intro () ⟨⟨rfl, ⟨rfl, ⟨rfl, rfl, rfl, trivial⟩, ⟨rfl, rfl, rfl, trivial⟩, trivial⟩, trivial⟩, trivial, ⟨rfl, rokB, rfl, rfl, trivial⟩, rfl, trivial⟩)

end
end Go.Proofs.Ytifgifhbefhkmaa.VM
/- Sets of tracks: the set of a list, told. No conditions. -/
namespace Go.Proofs.Ytifgifhbefhkmaa.VM
open Go Go.RowKit
set_option linter.unusedVariables false
set_option linter.unusedSimpArgs false
set_option maxRecDepth 100000
noncomputable section
def cfO : Cfg := ⟨fun f => Nat.beq f 25 || Nat.beq f 46, fun _ => false, fun _ => none⟩
def bitI (t : Int) : Int := 2 ^ (t.toNat % 8)
def putT (s : List Int) (t : Int) : List Int := s.set (t.toNat / 8) (orN (s.getD (t.toNat / 8) 0) (bitI t))
def ofP (n : Int) (l : List Int) : List Int := l.foldl putT (List.replicate (pages n) 0)
def InR (n : Int) (l : List Int) : Prop := ∀ t ∈ l, 0 ≤ t ∧ t < n
open Classical in
noncomputable def ofE (n : Int) (l : List Int) : Int := if sizeB n = true ∧ InR n l then 0 else 2
noncomputable def ofL (n : Int) (l : List Int) : List Int := if ofE n l = 0 then ofP n l else []
def cl44 (n : Int) : SV := .func (.func 44) [] [.ptrI false true (.lit [.int .i64 (.sym n)])]
def ctIdx : SCall := Ct (fun a : List Int × Int => [rowJ a.1, cl44 a.2]) (fun a => a.1.length ≤ 10000) (fun a => .bool (.sym (¬ InR a.2 a.1)))
/-- IndexFunc: the loop. -/
def L56 : LInv where
  ι := (List Int × Int) × Nat
  G := fun a => a.2 ≤ a.1.1.length ∧ a.1.1.length ≤ 10000
  μ := fun a => a.1.1.length - a.2
  I := fun a => ⟨stT 19 [(0, rowJ a.1.1), (1, cl44 a.1.2), (7, .int .i64 (.sym (a.1.1.length : Int))), (8, .int .i64 (.sym (a.2 : Int)))], [], 0⟩
  Ω := Unit
  e := 0
  PE := fun a _ => ∀ (k : Nat) t, a.2 ≤ k → a.1.1[k]? = some t → 0 ≤ t ∧ t < a.1.2
  OE := fun _ => ⟨stT 19 [], [], 0⟩
  ret := true
  Ρ := Nat × Unit
  PR := fun a k => k.1 ≤ 10000 ∧ ∃ t, a.1.1[k.1]? = some t ∧ ¬ (0 ≤ t ∧ t < a.1.2)
  OR := fun k => ⟨stT 19 [(4, .int .i64 (.sym (k.1 : Int)))], [], 0⟩
/-- Of: the loop. -/
def L24 : LInv where
  ι := (Int × List Int) × Nat
  G := fun a => 1 ≤ a.1.1 ∧ a.1.1 ≤ 16 ∧ InR a.1.1 a.1.2 ∧ a.2 ≤ a.1.2.length ∧ a.1.2.length ≤ 10000
  μ := fun a => a.1.2.length - a.2
  I := fun a => ⟨stT 40 [(23, rowJ a.1.2), (24, .int .i64 (.sym (a.1.2.length : Int))), (25, .int .i64 (.sym (a.2 : Int))), (6, .slB 1 (.lit 0) 1 0 (.sym (pages a.1.1)))], [(1, ⟨bytesC (ofP a.1.1 (a.1.2.take a.2)), 1, 0, false, false⟩)], 2⟩
  Ω := Int × List Int
  e := 0
  PE := fun a o => o = a.1
  OE := fun o => ⟨stT 40 [(6, .slB 1 (.lit 0) 1 0 (.sym (pages o.1)))], [(1, ⟨bytesC (ofP o.1 o.2), 1, 0, false, false⟩)], 2⟩
  ret := false
  Ρ := Unit
  PR := fun _ _ => False
  OR := fun _ => ⟨[], [], 0⟩
def ctOfL : SCall := Ct (fun a : Int × List Int => [.int .i64 (.sym a.1), rowJ a.2]) (fun a => a.2.length ≤ 10000) (fun a => .tup [row (ofL a.1 a.2), .int .i64 (.sym (ofE a.1 a.2))])
def sxO0 : SX := ⟨rowK, ctOf [], lpOf []⟩
def sx56 : SX := ⟨rowK, ctOf [], lpOf [(2, ⟨56, 0, L56.C 1000⟩)]⟩
def sx24 : SX := ⟨rowK, ctOf [(43, ctIdx)], lpOf [(6, ⟨24, 0, L24.C 1000⟩)]⟩
def sx24e : SX := ⟨rowK, ctOf [(45, ctSize), (46, fun _ _ _ _ => Stuck 998), (43, fun _ _ _ _ => Stuck 997)], lpOf [(6, ⟨24, 0, fun _ _ => Stuck 999⟩)]⟩
theorem vc_L56 (a : L56.ι) : (sexec sxO0 Try.prog cfO 1000 (loopBody Try.prog 56 0) (L56.I a) (L56.round 1000 a)) = (((↑(Prod.snd a) : Int) < (↑(List.length (Prod.fst (Prod.fst a))) : Int) → (0 : Int) ≤ (↑(Prod.snd a) : Int) ∧ (↑(Prod.snd a) : Int) < (↑(List.length (Prod.fst (Prod.fst a))) : Int) ∧ Int.toNat
(↑(Prod.snd a) : Int) < List.length (Prod.fst (Prod.fst a)) ∧ ∀ (y1 : Int), (Prod.fst (Prod.fst a))[Int.toNat (↑(Prod.snd a) : Int)]? = some y1 → (y1 < (0 : Int) → ∃ (y2 : LInv.Ρ L56), (Prod.fst y2 ≤
(10000 : Nat) ∧ ∃ (y3 : Int), (Prod.fst (Prod.fst a))[Prod.fst y2]? = some y3 ∧ ¬((0 : Int) ≤ y3 ∧ y3 < Prod.snd (Prod.fst a))) ∧ (True ∧ True ∧ True ∧ True ∧ (↑(Prod.snd a) : Int) = (↑(Prod.fst y2) :
Int) ∧ True ∧ True ∧ True ∧ True ∧ True ∧ True ∧ True ∧ True ∧ True ∧ True ∧ True ∧ True ∧ True ∧ True ∧ True) ∧ True) ∧ (¬y1 < (0 : Int) → (Prod.snd (Prod.fst a) ≤ y1 → ∃ (y2 : LInv.Ρ L56), (Prod.fst
y2 ≤ (10000 : Nat) ∧ ∃ (y3 : Int), (Prod.fst (Prod.fst a))[Prod.fst y2]? = some y3 ∧ ¬((0 : Int) ≤ y3 ∧ y3 < Prod.snd (Prod.fst a))) ∧ (True ∧ True ∧ True ∧ True ∧ (↑(Prod.snd a) : Int) = (↑(Prod.fst
y2) : Int) ∧ True ∧ True ∧ True ∧ True ∧ True ∧ True ∧ True ∧ True ∧ True ∧ True ∧ True ∧ True ∧ True ∧ True ∧ True) ∧ True) ∧ (¬Prod.snd (Prod.fst a) ≤ y1 → ∃ (y2 : LInv.ι L56), (Prod.snd y2 ≤
List.length (Prod.fst (Prod.fst y2)) ∧ List.length (Prod.fst (Prod.fst y2)) ≤ (10000 : Nat)) ∧ LInv.μ L56 y2 < LInv.μ L56 a ∧ (∀ (y3 : LInv.Ω L56), LInv.PE L56 y2 y3 → ∀ (y4 : Nat) (y5 : Int),
Prod.snd a ≤ y4 → (Prod.fst (Prod.fst a))[y4]? = some y5 → (0 : Int) ≤ y5 ∧ y5 < Prod.snd (Prod.fst a)) ∧ (∀ (y3 : LInv.Ρ L56), LInv.PR L56 y2 y3 → Prod.fst y3 ≤ (10000 : Nat) ∧ ∃ (y4 : Int),
(Prod.fst (Prod.fst a))[Prod.fst y3]? = some y4 ∧ ¬((0 : Int) ≤ y4 ∧ y4 < Prod.snd (Prod.fst a))) ∧ ((List.length (Prod.fst (Prod.fst a)) = List.length (Prod.fst (Prod.fst y2)) ∧ SC.rows (eI
IntKind.i64) (1 : Nat) (1 : Nat) true (Prod.fst (Prod.fst a)) = SC.rows (eI IntKind.i64) (1 : Nat) (1 : Nat) true (Prod.fst (Prod.fst y2))) ∧ (Fn.func (44 : FuncId) = Fn.func (44 : FuncId) ∧ True ∧
(Prod.snd (Prod.fst a) = Prod.snd (Prod.fst y2) ∧ True) ∧ True) ∧ True ∧ True ∧ True ∧ True ∧ True ∧ (↑(List.length (Prod.fst (Prod.fst a))) : Int) = (↑(List.length (Prod.fst (Prod.fst y2))) : Int) ∧
IntKind.wrap IntKind.i64 ((↑(Prod.snd a) : Int) + (1 : Int)) = (↑(Prod.snd y2) : Int) ∧ True ∧ True ∧ True ∧ True ∧ True ∧ True ∧ True ∧ True ∧ True ∧ True ∧ True) ∧ True))) ∧ (¬(↑(Prod.snd a) : Int)
< (↑(List.length (Prod.fst (Prod.fst a))) : Int) → ∃ (y1 : LInv.Ω L56), (∀ (y2 : Nat) (y3 : Int), Prod.snd a ≤ y2 → (Prod.fst (Prod.fst a))[y2]? = some y3 → (0 : Int) ≤ y3 ∧ y3 < Prod.snd (Prod.fst
a)) ∧ (True ∧ True ∧ True ∧ True ∧ True ∧ True ∧ True ∧ True ∧ True ∧ True ∧ True ∧ True ∧ True ∧ True ∧ True ∧ True ∧ True ∧ True ∧ True ∧ True) ∧ True)) := by kernel_rfl
theorem vc_L24 (a : L24.ι) : (sexec sxO0 Try.prog cfO 1000 (loopBody Try.prog 24 0) (L24.I a) (L24.round 1000 a)) = (((↑(Prod.snd a) : Int) < (↑(List.length (Prod.snd (Prod.fst a))) : Int) → (0 : Int) ≤ (↑(Prod.snd a) : Int) ∧ (↑(Prod.snd a) : Int) < (↑(List.length (Prod.snd (Prod.fst a))) : Int) ∧ Int.toNat
(↑(Prod.snd a) : Int) < List.length (Prod.snd (Prod.fst a)) ∧ ∀ (y1 : Int), (Prod.snd (Prod.fst a))[Int.toNat (↑(Prod.snd a) : Int)]? = some y1 → (0 : Int) ≤ IntKind.wrap IntKind.i64 (Int.tdiv y1 (8 :
Int)) ∧ IntKind.wrap IntKind.i64 (Int.tdiv y1 (8 : Int)) < (↑(pages (Prod.fst (Prod.fst a))) : Int) ∧ Int.toNat (IntKind.wrap IntKind.i64 (Int.tdiv y1 (8 : Int))) < List.length (ofP (Prod.fst
(Prod.fst a)) (List.take (Prod.snd a) (Prod.snd (Prod.fst a)))) ∧ ∀ (y2 : Int), (ofP (Prod.fst (Prod.fst a)) (List.take (Prod.snd a) (Prod.snd (Prod.fst a))))[Int.toNat (IntKind.wrap IntKind.i64
(Int.tdiv y1 (8 : Int)))]? = some y2 → (0 : Int) ≤ Int.tmod y1 (8 : Int) ∧ (0 : Int) ≤ IntKind.wrap IntKind.i64 (Int.tdiv y1 (8 : Int)) ∧ IntKind.wrap IntKind.i64 (Int.tdiv y1 (8 : Int)) < (↑(pages
(Prod.fst (Prod.fst a))) : Int) ∧ Int.toNat (IntKind.wrap IntKind.i64 (Int.tdiv y1 (8 : Int))) < List.length (ofP (Prod.fst (Prod.fst a)) (List.take (Prod.snd a) (Prod.snd (Prod.fst a)))) ∧ ∃ (y3 :
Int), (IntKind.wrap IntKind.u8 (↑(Int.toNat (y2 % (256 : Int)) ||| Int.toNat (IntKind.wrap IntKind.u8 ((1 : Int) * (2 : Int) ^ min (Int.toNat (Int.tmod y1 (8 : Int))) (8 : Nat)) % (256 : Int))) : Int)
= y3 ∧ True) ∧ ∃ (y4 : LInv.ι L24), ((1 : Int) ≤ Prod.fst (Prod.fst y4) ∧ Prod.fst (Prod.fst y4) ≤ (16 : Int) ∧ (∀ (y5 : Int), y5 ∈ Prod.snd (Prod.fst y4) → (0 : Int) ≤ y5 ∧ y5 < Prod.fst (Prod.fst
y4)) ∧ Prod.snd y4 ≤ List.length (Prod.snd (Prod.fst y4)) ∧ List.length (Prod.snd (Prod.fst y4)) ≤ (10000 : Nat)) ∧ LInv.μ L24 y4 < LInv.μ L24 a ∧ (∀ (y5 : LInv.Ω L24), LInv.PE L24 y4 y5 → y5 =
Prod.fst a) ∧ True ∧ (True ∧ True ∧ True ∧ True ∧ True ∧ True ∧ ((0 : Nat) = (0 : Nat) ∧ pages (Prod.fst (Prod.fst a)) = pages (Prod.fst (Prod.fst y4))) ∧ True ∧ True ∧ True ∧ True ∧ True ∧ True ∧
True ∧ True ∧ True ∧ True ∧ True ∧ True ∧ True ∧ True ∧ True ∧ True ∧ (List.length (Prod.snd (Prod.fst a)) = List.length (Prod.snd (Prod.fst y4)) ∧ SC.rows (eI IntKind.i64) (1 : Nat) (1 : Nat) true
(Prod.snd (Prod.fst a)) = SC.rows (eI IntKind.i64) (1 : Nat) (1 : Nat) true (Prod.snd (Prod.fst y4))) ∧ (↑(List.length (Prod.snd (Prod.fst a))) : Int) = (↑(List.length (Prod.snd (Prod.fst y4))) : Int)
∧ IntKind.wrap IntKind.i64 ((↑(Prod.snd a) : Int) + (1 : Int)) = (↑(Prod.snd y4) : Int) ∧ True ∧ True ∧ True ∧ True ∧ True ∧ True ∧ True ∧ True ∧ True ∧ True ∧ True ∧ True ∧ True ∧ True ∧ True) ∧
SC.rows eB (1 : Nat) (1 : Nat) true (List.set (ofP (Prod.fst (Prod.fst a)) (List.take (Prod.snd a) (Prod.snd (Prod.fst a)))) (Int.toNat (IntKind.wrap IntKind.i64 (Int.tdiv y1 (8 : Int)))) y3) =
SC.rows eB (1 : Nat) (1 : Nat) true (ofP (Prod.fst (Prod.fst y4)) (List.take (Prod.snd y4) (Prod.snd (Prod.fst y4)))) ∧ True) ∧ (¬(↑(Prod.snd a) : Int) < (↑(List.length (Prod.snd (Prod.fst a))) : Int)
→ ∃ (y1 : LInv.Ω L24), y1 = Prod.fst a ∧ (True ∧ True ∧ True ∧ True ∧ True ∧ True ∧ ((0 : Nat) = (0 : Nat) ∧ pages (Prod.fst (Prod.fst a)) = pages (Prod.fst y1)) ∧ True ∧ True ∧ True ∧ True ∧ True ∧
True ∧ True ∧ True ∧ True ∧ True ∧ True ∧ True ∧ True ∧ True ∧ True ∧ True ∧ True ∧ True ∧ True ∧ True ∧ True ∧ True ∧ True ∧ True ∧ True ∧ True ∧ True ∧ True ∧ True ∧ True ∧ True ∧ True ∧ True ∧
True) ∧ SC.rows eB (1 : Nat) (1 : Nat) true (ofP (Prod.fst (Prod.fst a)) (List.take (Prod.snd a) (Prod.snd (Prod.fst a)))) = SC.rows eB (1 : Nat) (1 : Nat) true (ofP (Prod.fst y1) (Prod.snd y1)) ∧
True)) := by kernel_rfl
theorem vc_Idx (l : List Int) (n : Int) (p : Prop) : (scallI sx56 Try.prog cfO (sexec sx56 Try.prog cfO 1000) 43 0 [rowJ l, cl44 n] (post (.bool (.sym p)))) = (SameCode (loopBody Try.prog (56 : Nat) (0 : Nat)) (loopBody Try.prog (56 : Nat) (0 : Nat)) ∧ ∃ (y3 : LInv.ι L56), (Prod.snd y3 ≤ List.length (Prod.fst (Prod.fst y3)) ∧ List.length (Prod.fst (Prod.fst
y3)) ≤ (10000 : Nat)) ∧ (((List.length l = List.length (Prod.fst (Prod.fst y3)) ∧ SC.rows (eI IntKind.i64) (1 : Nat) (1 : Nat) true l = SC.rows (eI IntKind.i64) (1 : Nat) (1 : Nat) true (Prod.fst
(Prod.fst y3))) ∧ (Fn.func (44 : FuncId) = Fn.func (44 : FuncId) ∧ True ∧ (n = Prod.snd (Prod.fst y3) ∧ True) ∧ True) ∧ True ∧ True ∧ True ∧ True ∧ True ∧ (↑(List.length l) : Int) = (↑(List.length
(Prod.fst (Prod.fst y3))) : Int) ∧ (0 : Int) = (↑(Prod.snd y3) : Int) ∧ True ∧ True ∧ True ∧ True ∧ True ∧ True ∧ True ∧ True ∧ True ∧ True ∧ True) ∧ True) ∧ (∀ (y4 : LInv.ι L56), True) ∧ (∀ (y4 :
LInv.Ω L56), LInv.PE L56 y3 y4 → (false = true ↔ p)) ∧ ∀ (y4 : LInv.Ρ L56), LInv.PR L56 y3 y4 → ((0 : Int) ≤ (↑(Prod.fst y4) : Int) ↔ p)) := by kernel_rfl
theorem vc_Of1 (l : List Int) (x : List Int) (e : Int) : (scallI sx24 Try.prog cfO (sexec sx24 Try.prog cfO 1000) 24 0 [.int .i64 (.lit 1), rowJ l] (post (.tup [row x, .int .i64 (.sym e)]))) = (∃ (y3 : List Int × Int), ((List.length l = List.length (Prod.fst y3) ∧ SC.rows (eI IntKind.i64) (1 : Nat) (1 : Nat) true l = SC.rows (eI IntKind.i64) (1 : Nat) (1 : Nat) true (Prod.fst y3)) ∧ (Fn.func
(44 : Nat) = Fn.func (44 : FuncId) ∧ True ∧ ((1 : Int) = Prod.snd y3 ∧ True) ∧ True) ∧ True) ∧ List.length (Prod.fst y3) ≤ (10000 : Nat) ∧ (¬InR (Prod.snd y3) (Prod.fst y3) → (List.length x = (0 :
Nat) ∧ ∀ (y4 : Int), List.length (eB y4) = (1 : Nat) ∧ (∀ (y5 : SV), y5 ∈ eB y4 → imm (1 : Nat) y5 ∧ SV.one y5 = true) ∧ (true = true → ∀ (y5 : SV), y5 ∈ eB y4 → scalar y5)) ∧ (2 : Int) = e ∧ True) ∧
(¬¬InR (Prod.snd y3) (Prod.fst y3) → SameCode (loopBody Try.prog (24 : Nat) (0 : Nat)) (loopBody Try.prog (24 : Nat) (0 : Nat)) ∧ ∃ (y4 : LInv.ι L24), ((1 : Int) ≤ Prod.fst (Prod.fst y4) ∧ Prod.fst
(Prod.fst y4) ≤ (16 : Int) ∧ (∀ (y5 : Int), y5 ∈ Prod.snd (Prod.fst y4) → (0 : Int) ≤ y5 ∧ y5 < Prod.fst (Prod.fst y4)) ∧ Prod.snd y4 ≤ List.length (Prod.snd (Prod.fst y4)) ∧ List.length (Prod.snd
(Prod.fst y4)) ≤ (10000 : Nat)) ∧ ((True ∧ True ∧ True ∧ True ∧ True ∧ True ∧ ((0 : Nat) = (0 : Nat) ∧ (1 : Nat) = pages (Prod.fst (Prod.fst y4))) ∧ True ∧ True ∧ True ∧ True ∧ True ∧ True ∧ True ∧
True ∧ True ∧ True ∧ True ∧ True ∧ True ∧ True ∧ True ∧ True ∧ (List.length l = List.length (Prod.snd (Prod.fst y4)) ∧ SC.rows (eI IntKind.i64) (1 : Nat) (1 : Nat) true l = SC.rows (eI IntKind.i64) (1
: Nat) (1 : Nat) true (Prod.snd (Prod.fst y4))) ∧ (↑(List.length l) : Int) = (↑(List.length (Prod.snd (Prod.fst y4))) : Int) ∧ (0 : Int) = (↑(Prod.snd y4) : Int) ∧ True ∧ True ∧ True ∧ True ∧ True ∧
True ∧ True ∧ True ∧ True ∧ True ∧ True ∧ True ∧ True ∧ True ∧ True) ∧ (ROK eB (1 : Nat) (1 : Nat) true ∧ sles [SV.int IntKind.u8 (SI.lit (0 : Int))] (List.flatMap eB (ofP (Prod.fst (Prod.fst y4))
(List.take (Prod.snd y4) (Prod.snd (Prod.fst y4)))))) ∧ True) ∧ (∀ (y5 : LInv.ι L24), True) ∧ (∀ (y5 : LInv.Ω L24), LInv.PE L24 y4 y5 → pages (Prod.fst y5) ≤ List.length (ofP (Prod.fst y5) (Prod.snd
y5)) ∧ (pages (Prod.fst y5) = List.length x ∧ SC.rows eB (1 : Nat) (1 : Nat) true (List.take (pages (Prod.fst y5)) (rdrop (SN.lit (0 : Nat)) (ofP (Prod.fst y5) (Prod.snd y5)))) = SC.rows eB (1 : Nat)
(1 : Nat) true x) ∧ (0 : Int) = e ∧ True) ∧ True)) := by kernel_rfl
theorem vc_Of2 (l : List Int) (x : List Int) (e : Int) : (scallI sx24 Try.prog cfO (sexec sx24 Try.prog cfO 1000) 24 0 [.int .i64 (.lit 2), rowJ l] (post (.tup [row x, .int .i64 (.sym e)]))) = (∃ (y3 : List Int × Int), ((List.length l = List.length (Prod.fst y3) ∧ SC.rows (eI IntKind.i64) (1 : Nat) (1 : Nat) true l = SC.rows (eI IntKind.i64) (1 : Nat) (1 : Nat) true (Prod.fst y3)) ∧ (Fn.func
(44 : Nat) = Fn.func (44 : FuncId) ∧ True ∧ ((2 : Int) = Prod.snd y3 ∧ True) ∧ True) ∧ True) ∧ List.length (Prod.fst y3) ≤ (10000 : Nat) ∧ (¬InR (Prod.snd y3) (Prod.fst y3) → (List.length x = (0 :
Nat) ∧ ∀ (y4 : Int), List.length (eB y4) = (1 : Nat) ∧ (∀ (y5 : SV), y5 ∈ eB y4 → imm (1 : Nat) y5 ∧ SV.one y5 = true) ∧ (true = true → ∀ (y5 : SV), y5 ∈ eB y4 → scalar y5)) ∧ (2 : Int) = e ∧ True) ∧
(¬¬InR (Prod.snd y3) (Prod.fst y3) → SameCode (loopBody Try.prog (24 : Nat) (0 : Nat)) (loopBody Try.prog (24 : Nat) (0 : Nat)) ∧ ∃ (y4 : LInv.ι L24), ((1 : Int) ≤ Prod.fst (Prod.fst y4) ∧ Prod.fst
(Prod.fst y4) ≤ (16 : Int) ∧ (∀ (y5 : Int), y5 ∈ Prod.snd (Prod.fst y4) → (0 : Int) ≤ y5 ∧ y5 < Prod.fst (Prod.fst y4)) ∧ Prod.snd y4 ≤ List.length (Prod.snd (Prod.fst y4)) ∧ List.length (Prod.snd
(Prod.fst y4)) ≤ (10000 : Nat)) ∧ ((True ∧ True ∧ True ∧ True ∧ True ∧ True ∧ ((0 : Nat) = (0 : Nat) ∧ (1 : Nat) = pages (Prod.fst (Prod.fst y4))) ∧ True ∧ True ∧ True ∧ True ∧ True ∧ True ∧ True ∧
True ∧ True ∧ True ∧ True ∧ True ∧ True ∧ True ∧ True ∧ True ∧ (List.length l = List.length (Prod.snd (Prod.fst y4)) ∧ SC.rows (eI IntKind.i64) (1 : Nat) (1 : Nat) true l = SC.rows (eI IntKind.i64) (1
: Nat) (1 : Nat) true (Prod.snd (Prod.fst y4))) ∧ (↑(List.length l) : Int) = (↑(List.length (Prod.snd (Prod.fst y4))) : Int) ∧ (0 : Int) = (↑(Prod.snd y4) : Int) ∧ True ∧ True ∧ True ∧ True ∧ True ∧
True ∧ True ∧ True ∧ True ∧ True ∧ True ∧ True ∧ True ∧ True ∧ True) ∧ (ROK eB (1 : Nat) (1 : Nat) true ∧ sles [SV.int IntKind.u8 (SI.lit (0 : Int))] (List.flatMap eB (ofP (Prod.fst (Prod.fst y4))
(List.take (Prod.snd y4) (Prod.snd (Prod.fst y4)))))) ∧ True) ∧ (∀ (y5 : LInv.ι L24), True) ∧ (∀ (y5 : LInv.Ω L24), LInv.PE L24 y4 y5 → pages (Prod.fst y5) ≤ List.length (ofP (Prod.fst y5) (Prod.snd
y5)) ∧ (pages (Prod.fst y5) = List.length x ∧ SC.rows eB (1 : Nat) (1 : Nat) true (List.take (pages (Prod.fst y5)) (rdrop (SN.lit (0 : Nat)) (ofP (Prod.fst y5) (Prod.snd y5)))) = SC.rows eB (1 : Nat)
(1 : Nat) true x) ∧ (0 : Int) = e ∧ True) ∧ True)) := by kernel_rfl
theorem vc_Of3 (l : List Int) (x : List Int) (e : Int) : (scallI sx24 Try.prog cfO (sexec sx24 Try.prog cfO 1000) 24 0 [.int .i64 (.lit 3), rowJ l] (post (.tup [row x, .int .i64 (.sym e)]))) = (∃ (y3 : List Int × Int), ((List.length l = List.length (Prod.fst y3) ∧ SC.rows (eI IntKind.i64) (1 : Nat) (1 : Nat) true l = SC.rows (eI IntKind.i64) (1 : Nat) (1 : Nat) true (Prod.fst y3)) ∧ (Fn.func
(44 : Nat) = Fn.func (44 : FuncId) ∧ True ∧ ((3 : Int) = Prod.snd y3 ∧ True) ∧ True) ∧ True) ∧ List.length (Prod.fst y3) ≤ (10000 : Nat) ∧ (¬InR (Prod.snd y3) (Prod.fst y3) → (List.length x = (0 :
Nat) ∧ ∀ (y4 : Int), List.length (eB y4) = (1 : Nat) ∧ (∀ (y5 : SV), y5 ∈ eB y4 → imm (1 : Nat) y5 ∧ SV.one y5 = true) ∧ (true = true → ∀ (y5 : SV), y5 ∈ eB y4 → scalar y5)) ∧ (2 : Int) = e ∧ True) ∧
(¬¬InR (Prod.snd y3) (Prod.fst y3) → SameCode (loopBody Try.prog (24 : Nat) (0 : Nat)) (loopBody Try.prog (24 : Nat) (0 : Nat)) ∧ ∃ (y4 : LInv.ι L24), ((1 : Int) ≤ Prod.fst (Prod.fst y4) ∧ Prod.fst
(Prod.fst y4) ≤ (16 : Int) ∧ (∀ (y5 : Int), y5 ∈ Prod.snd (Prod.fst y4) → (0 : Int) ≤ y5 ∧ y5 < Prod.fst (Prod.fst y4)) ∧ Prod.snd y4 ≤ List.length (Prod.snd (Prod.fst y4)) ∧ List.length (Prod.snd
(Prod.fst y4)) ≤ (10000 : Nat)) ∧ ((True ∧ True ∧ True ∧ True ∧ True ∧ True ∧ ((0 : Nat) = (0 : Nat) ∧ (1 : Nat) = pages (Prod.fst (Prod.fst y4))) ∧ True ∧ True ∧ True ∧ True ∧ True ∧ True ∧ True ∧
True ∧ True ∧ True ∧ True ∧ True ∧ True ∧ True ∧ True ∧ True ∧ (List.length l = List.length (Prod.snd (Prod.fst y4)) ∧ SC.rows (eI IntKind.i64) (1 : Nat) (1 : Nat) true l = SC.rows (eI IntKind.i64) (1
: Nat) (1 : Nat) true (Prod.snd (Prod.fst y4))) ∧ (↑(List.length l) : Int) = (↑(List.length (Prod.snd (Prod.fst y4))) : Int) ∧ (0 : Int) = (↑(Prod.snd y4) : Int) ∧ True ∧ True ∧ True ∧ True ∧ True ∧
True ∧ True ∧ True ∧ True ∧ True ∧ True ∧ True ∧ True ∧ True ∧ True) ∧ (ROK eB (1 : Nat) (1 : Nat) true ∧ sles [SV.int IntKind.u8 (SI.lit (0 : Int))] (List.flatMap eB (ofP (Prod.fst (Prod.fst y4))
(List.take (Prod.snd y4) (Prod.snd (Prod.fst y4)))))) ∧ True) ∧ (∀ (y5 : LInv.ι L24), True) ∧ (∀ (y5 : LInv.Ω L24), LInv.PE L24 y4 y5 → pages (Prod.fst y5) ≤ List.length (ofP (Prod.fst y5) (Prod.snd
y5)) ∧ (pages (Prod.fst y5) = List.length x ∧ SC.rows eB (1 : Nat) (1 : Nat) true (List.take (pages (Prod.fst y5)) (rdrop (SN.lit (0 : Nat)) (ofP (Prod.fst y5) (Prod.snd y5)))) = SC.rows eB (1 : Nat)
(1 : Nat) true x) ∧ (0 : Int) = e ∧ True) ∧ True)) := by kernel_rfl
theorem vc_Of4 (l : List Int) (x : List Int) (e : Int) : (scallI sx24 Try.prog cfO (sexec sx24 Try.prog cfO 1000) 24 0 [.int .i64 (.lit 4), rowJ l] (post (.tup [row x, .int .i64 (.sym e)]))) = (∃ (y3 : List Int × Int), ((List.length l = List.length (Prod.fst y3) ∧ SC.rows (eI IntKind.i64) (1 : Nat) (1 : Nat) true l = SC.rows (eI IntKind.i64) (1 : Nat) (1 : Nat) true (Prod.fst y3)) ∧ (Fn.func
(44 : Nat) = Fn.func (44 : FuncId) ∧ True ∧ ((4 : Int) = Prod.snd y3 ∧ True) ∧ True) ∧ True) ∧ List.length (Prod.fst y3) ≤ (10000 : Nat) ∧ (¬InR (Prod.snd y3) (Prod.fst y3) → (List.length x = (0 :
Nat) ∧ ∀ (y4 : Int), List.length (eB y4) = (1 : Nat) ∧ (∀ (y5 : SV), y5 ∈ eB y4 → imm (1 : Nat) y5 ∧ SV.one y5 = true) ∧ (true = true → ∀ (y5 : SV), y5 ∈ eB y4 → scalar y5)) ∧ (2 : Int) = e ∧ True) ∧
(¬¬InR (Prod.snd y3) (Prod.fst y3) → SameCode (loopBody Try.prog (24 : Nat) (0 : Nat)) (loopBody Try.prog (24 : Nat) (0 : Nat)) ∧ ∃ (y4 : LInv.ι L24), ((1 : Int) ≤ Prod.fst (Prod.fst y4) ∧ Prod.fst
(Prod.fst y4) ≤ (16 : Int) ∧ (∀ (y5 : Int), y5 ∈ Prod.snd (Prod.fst y4) → (0 : Int) ≤ y5 ∧ y5 < Prod.fst (Prod.fst y4)) ∧ Prod.snd y4 ≤ List.length (Prod.snd (Prod.fst y4)) ∧ List.length (Prod.snd
(Prod.fst y4)) ≤ (10000 : Nat)) ∧ ((True ∧ True ∧ True ∧ True ∧ True ∧ True ∧ ((0 : Nat) = (0 : Nat) ∧ (1 : Nat) = pages (Prod.fst (Prod.fst y4))) ∧ True ∧ True ∧ True ∧ True ∧ True ∧ True ∧ True ∧
True ∧ True ∧ True ∧ True ∧ True ∧ True ∧ True ∧ True ∧ True ∧ (List.length l = List.length (Prod.snd (Prod.fst y4)) ∧ SC.rows (eI IntKind.i64) (1 : Nat) (1 : Nat) true l = SC.rows (eI IntKind.i64) (1
: Nat) (1 : Nat) true (Prod.snd (Prod.fst y4))) ∧ (↑(List.length l) : Int) = (↑(List.length (Prod.snd (Prod.fst y4))) : Int) ∧ (0 : Int) = (↑(Prod.snd y4) : Int) ∧ True ∧ True ∧ True ∧ True ∧ True ∧
True ∧ True ∧ True ∧ True ∧ True ∧ True ∧ True ∧ True ∧ True ∧ True) ∧ (ROK eB (1 : Nat) (1 : Nat) true ∧ sles [SV.int IntKind.u8 (SI.lit (0 : Int))] (List.flatMap eB (ofP (Prod.fst (Prod.fst y4))
(List.take (Prod.snd y4) (Prod.snd (Prod.fst y4)))))) ∧ True) ∧ (∀ (y5 : LInv.ι L24), True) ∧ (∀ (y5 : LInv.Ω L24), LInv.PE L24 y4 y5 → pages (Prod.fst y5) ≤ List.length (ofP (Prod.fst y5) (Prod.snd
y5)) ∧ (pages (Prod.fst y5) = List.length x ∧ SC.rows eB (1 : Nat) (1 : Nat) true (List.take (pages (Prod.fst y5)) (rdrop (SN.lit (0 : Nat)) (ofP (Prod.fst y5) (Prod.snd y5)))) = SC.rows eB (1 : Nat)
(1 : Nat) true x) ∧ (0 : Int) = e ∧ True) ∧ True)) := by kernel_rfl
theorem vc_Of5 (l : List Int) (x : List Int) (e : Int) : (scallI sx24 Try.prog cfO (sexec sx24 Try.prog cfO 1000) 24 0 [.int .i64 (.lit 5), rowJ l] (post (.tup [row x, .int .i64 (.sym e)]))) = (∃ (y3 : List Int × Int), ((List.length l = List.length (Prod.fst y3) ∧ SC.rows (eI IntKind.i64) (1 : Nat) (1 : Nat) true l = SC.rows (eI IntKind.i64) (1 : Nat) (1 : Nat) true (Prod.fst y3)) ∧ (Fn.func
(44 : Nat) = Fn.func (44 : FuncId) ∧ True ∧ ((5 : Int) = Prod.snd y3 ∧ True) ∧ True) ∧ True) ∧ List.length (Prod.fst y3) ≤ (10000 : Nat) ∧ (¬InR (Prod.snd y3) (Prod.fst y3) → (List.length x = (0 :
Nat) ∧ ∀ (y4 : Int), List.length (eB y4) = (1 : Nat) ∧ (∀ (y5 : SV), y5 ∈ eB y4 → imm (1 : Nat) y5 ∧ SV.one y5 = true) ∧ (true = true → ∀ (y5 : SV), y5 ∈ eB y4 → scalar y5)) ∧ (2 : Int) = e ∧ True) ∧
(¬¬InR (Prod.snd y3) (Prod.fst y3) → SameCode (loopBody Try.prog (24 : Nat) (0 : Nat)) (loopBody Try.prog (24 : Nat) (0 : Nat)) ∧ ∃ (y4 : LInv.ι L24), ((1 : Int) ≤ Prod.fst (Prod.fst y4) ∧ Prod.fst
(Prod.fst y4) ≤ (16 : Int) ∧ (∀ (y5 : Int), y5 ∈ Prod.snd (Prod.fst y4) → (0 : Int) ≤ y5 ∧ y5 < Prod.fst (Prod.fst y4)) ∧ Prod.snd y4 ≤ List.length (Prod.snd (Prod.fst y4)) ∧ List.length (Prod.snd
(Prod.fst y4)) ≤ (10000 : Nat)) ∧ ((True ∧ True ∧ True ∧ True ∧ True ∧ True ∧ ((0 : Nat) = (0 : Nat) ∧ (1 : Nat) = pages (Prod.fst (Prod.fst y4))) ∧ True ∧ True ∧ True ∧ True ∧ True ∧ True ∧ True ∧
True ∧ True ∧ True ∧ True ∧ True ∧ True ∧ True ∧ True ∧ True ∧ (List.length l = List.length (Prod.snd (Prod.fst y4)) ∧ SC.rows (eI IntKind.i64) (1 : Nat) (1 : Nat) true l = SC.rows (eI IntKind.i64) (1
: Nat) (1 : Nat) true (Prod.snd (Prod.fst y4))) ∧ (↑(List.length l) : Int) = (↑(List.length (Prod.snd (Prod.fst y4))) : Int) ∧ (0 : Int) = (↑(Prod.snd y4) : Int) ∧ True ∧ True ∧ True ∧ True ∧ True ∧
True ∧ True ∧ True ∧ True ∧ True ∧ True ∧ True ∧ True ∧ True ∧ True) ∧ (ROK eB (1 : Nat) (1 : Nat) true ∧ sles [SV.int IntKind.u8 (SI.lit (0 : Int))] (List.flatMap eB (ofP (Prod.fst (Prod.fst y4))
(List.take (Prod.snd y4) (Prod.snd (Prod.fst y4)))))) ∧ True) ∧ (∀ (y5 : LInv.ι L24), True) ∧ (∀ (y5 : LInv.Ω L24), LInv.PE L24 y4 y5 → pages (Prod.fst y5) ≤ List.length (ofP (Prod.fst y5) (Prod.snd
y5)) ∧ (pages (Prod.fst y5) = List.length x ∧ SC.rows eB (1 : Nat) (1 : Nat) true (List.take (pages (Prod.fst y5)) (rdrop (SN.lit (0 : Nat)) (ofP (Prod.fst y5) (Prod.snd y5)))) = SC.rows eB (1 : Nat)
(1 : Nat) true x) ∧ (0 : Int) = e ∧ True) ∧ True)) := by kernel_rfl
theorem vc_Of6 (l : List Int) (x : List Int) (e : Int) : (scallI sx24 Try.prog cfO (sexec sx24 Try.prog cfO 1000) 24 0 [.int .i64 (.lit 6), rowJ l] (post (.tup [row x, .int .i64 (.sym e)]))) = (∃ (y3 : List Int × Int), ((List.length l = List.length (Prod.fst y3) ∧ SC.rows (eI IntKind.i64) (1 : Nat) (1 : Nat) true l = SC.rows (eI IntKind.i64) (1 : Nat) (1 : Nat) true (Prod.fst y3)) ∧ (Fn.func
(44 : Nat) = Fn.func (44 : FuncId) ∧ True ∧ ((6 : Int) = Prod.snd y3 ∧ True) ∧ True) ∧ True) ∧ List.length (Prod.fst y3) ≤ (10000 : Nat) ∧ (¬InR (Prod.snd y3) (Prod.fst y3) → (List.length x = (0 :
Nat) ∧ ∀ (y4 : Int), List.length (eB y4) = (1 : Nat) ∧ (∀ (y5 : SV), y5 ∈ eB y4 → imm (1 : Nat) y5 ∧ SV.one y5 = true) ∧ (true = true → ∀ (y5 : SV), y5 ∈ eB y4 → scalar y5)) ∧ (2 : Int) = e ∧ True) ∧
(¬¬InR (Prod.snd y3) (Prod.fst y3) → SameCode (loopBody Try.prog (24 : Nat) (0 : Nat)) (loopBody Try.prog (24 : Nat) (0 : Nat)) ∧ ∃ (y4 : LInv.ι L24), ((1 : Int) ≤ Prod.fst (Prod.fst y4) ∧ Prod.fst
(Prod.fst y4) ≤ (16 : Int) ∧ (∀ (y5 : Int), y5 ∈ Prod.snd (Prod.fst y4) → (0 : Int) ≤ y5 ∧ y5 < Prod.fst (Prod.fst y4)) ∧ Prod.snd y4 ≤ List.length (Prod.snd (Prod.fst y4)) ∧ List.length (Prod.snd
(Prod.fst y4)) ≤ (10000 : Nat)) ∧ ((True ∧ True ∧ True ∧ True ∧ True ∧ True ∧ ((0 : Nat) = (0 : Nat) ∧ (1 : Nat) = pages (Prod.fst (Prod.fst y4))) ∧ True ∧ True ∧ True ∧ True ∧ True ∧ True ∧ True ∧
True ∧ True ∧ True ∧ True ∧ True ∧ True ∧ True ∧ True ∧ True ∧ (List.length l = List.length (Prod.snd (Prod.fst y4)) ∧ SC.rows (eI IntKind.i64) (1 : Nat) (1 : Nat) true l = SC.rows (eI IntKind.i64) (1
: Nat) (1 : Nat) true (Prod.snd (Prod.fst y4))) ∧ (↑(List.length l) : Int) = (↑(List.length (Prod.snd (Prod.fst y4))) : Int) ∧ (0 : Int) = (↑(Prod.snd y4) : Int) ∧ True ∧ True ∧ True ∧ True ∧ True ∧
True ∧ True ∧ True ∧ True ∧ True ∧ True ∧ True ∧ True ∧ True ∧ True) ∧ (ROK eB (1 : Nat) (1 : Nat) true ∧ sles [SV.int IntKind.u8 (SI.lit (0 : Int))] (List.flatMap eB (ofP (Prod.fst (Prod.fst y4))
(List.take (Prod.snd y4) (Prod.snd (Prod.fst y4)))))) ∧ True) ∧ (∀ (y5 : LInv.ι L24), True) ∧ (∀ (y5 : LInv.Ω L24), LInv.PE L24 y4 y5 → pages (Prod.fst y5) ≤ List.length (ofP (Prod.fst y5) (Prod.snd
y5)) ∧ (pages (Prod.fst y5) = List.length x ∧ SC.rows eB (1 : Nat) (1 : Nat) true (List.take (pages (Prod.fst y5)) (rdrop (SN.lit (0 : Nat)) (ofP (Prod.fst y5) (Prod.snd y5)))) = SC.rows eB (1 : Nat)
(1 : Nat) true x) ∧ (0 : Int) = e ∧ True) ∧ True)) := by kernel_rfl
theorem vc_Of7 (l : List Int) (x : List Int) (e : Int) : (scallI sx24 Try.prog cfO (sexec sx24 Try.prog cfO 1000) 24 0 [.int .i64 (.lit 7), rowJ l] (post (.tup [row x, .int .i64 (.sym e)]))) = (∃ (y3 : List Int × Int), ((List.length l = List.length (Prod.fst y3) ∧ SC.rows (eI IntKind.i64) (1 : Nat) (1 : Nat) true l = SC.rows (eI IntKind.i64) (1 : Nat) (1 : Nat) true (Prod.fst y3)) ∧ (Fn.func
(44 : Nat) = Fn.func (44 : FuncId) ∧ True ∧ ((7 : Int) = Prod.snd y3 ∧ True) ∧ True) ∧ True) ∧ List.length (Prod.fst y3) ≤ (10000 : Nat) ∧ (¬InR (Prod.snd y3) (Prod.fst y3) → (List.length x = (0 :
Nat) ∧ ∀ (y4 : Int), List.length (eB y4) = (1 : Nat) ∧ (∀ (y5 : SV), y5 ∈ eB y4 → imm (1 : Nat) y5 ∧ SV.one y5 = true) ∧ (true = true → ∀ (y5 : SV), y5 ∈ eB y4 → scalar y5)) ∧ (2 : Int) = e ∧ True) ∧
(¬¬InR (Prod.snd y3) (Prod.fst y3) → SameCode (loopBody Try.prog (24 : Nat) (0 : Nat)) (loopBody Try.prog (24 : Nat) (0 : Nat)) ∧ ∃ (y4 : LInv.ι L24), ((1 : Int) ≤ Prod.fst (Prod.fst y4) ∧ Prod.fst
(Prod.fst y4) ≤ (16 : Int) ∧ (∀ (y5 : Int), y5 ∈ Prod.snd (Prod.fst y4) → (0 : Int) ≤ y5 ∧ y5 < Prod.fst (Prod.fst y4)) ∧ Prod.snd y4 ≤ List.length (Prod.snd (Prod.fst y4)) ∧ List.length (Prod.snd
(Prod.fst y4)) ≤ (10000 : Nat)) ∧ ((True ∧ True ∧ True ∧ True ∧ True ∧ True ∧ ((0 : Nat) = (0 : Nat) ∧ (1 : Nat) = pages (Prod.fst (Prod.fst y4))) ∧ True ∧ True ∧ True ∧ True ∧ True ∧ True ∧ True ∧
True ∧ True ∧ True ∧ True ∧ True ∧ True ∧ True ∧ True ∧ True ∧ (List.length l = List.length (Prod.snd (Prod.fst y4)) ∧ SC.rows (eI IntKind.i64) (1 : Nat) (1 : Nat) true l = SC.rows (eI IntKind.i64) (1
: Nat) (1 : Nat) true (Prod.snd (Prod.fst y4))) ∧ (↑(List.length l) : Int) = (↑(List.length (Prod.snd (Prod.fst y4))) : Int) ∧ (0 : Int) = (↑(Prod.snd y4) : Int) ∧ True ∧ True ∧ True ∧ True ∧ True ∧
True ∧ True ∧ True ∧ True ∧ True ∧ True ∧ True ∧ True ∧ True ∧ True) ∧ (ROK eB (1 : Nat) (1 : Nat) true ∧ sles [SV.int IntKind.u8 (SI.lit (0 : Int))] (List.flatMap eB (ofP (Prod.fst (Prod.fst y4))
(List.take (Prod.snd y4) (Prod.snd (Prod.fst y4)))))) ∧ True) ∧ (∀ (y5 : LInv.ι L24), True) ∧ (∀ (y5 : LInv.Ω L24), LInv.PE L24 y4 y5 → pages (Prod.fst y5) ≤ List.length (ofP (Prod.fst y5) (Prod.snd
y5)) ∧ (pages (Prod.fst y5) = List.length x ∧ SC.rows eB (1 : Nat) (1 : Nat) true (List.take (pages (Prod.fst y5)) (rdrop (SN.lit (0 : Nat)) (ofP (Prod.fst y5) (Prod.snd y5)))) = SC.rows eB (1 : Nat)
(1 : Nat) true x) ∧ (0 : Int) = e ∧ True) ∧ True)) := by kernel_rfl
theorem vc_Of8 (l : List Int) (x : List Int) (e : Int) : (scallI sx24 Try.prog cfO (sexec sx24 Try.prog cfO 1000) 24 0 [.int .i64 (.lit 8), rowJ l] (post (.tup [row x, .int .i64 (.sym e)]))) = (∃ (y3 : List Int × Int), ((List.length l = List.length (Prod.fst y3) ∧ SC.rows (eI IntKind.i64) (1 : Nat) (1 : Nat) true l = SC.rows (eI IntKind.i64) (1 : Nat) (1 : Nat) true (Prod.fst y3)) ∧ (Fn.func
(44 : Nat) = Fn.func (44 : FuncId) ∧ True ∧ ((8 : Int) = Prod.snd y3 ∧ True) ∧ True) ∧ True) ∧ List.length (Prod.fst y3) ≤ (10000 : Nat) ∧ (¬InR (Prod.snd y3) (Prod.fst y3) → (List.length x = (0 :
Nat) ∧ ∀ (y4 : Int), List.length (eB y4) = (1 : Nat) ∧ (∀ (y5 : SV), y5 ∈ eB y4 → imm (1 : Nat) y5 ∧ SV.one y5 = true) ∧ (true = true → ∀ (y5 : SV), y5 ∈ eB y4 → scalar y5)) ∧ (2 : Int) = e ∧ True) ∧
(¬¬InR (Prod.snd y3) (Prod.fst y3) → SameCode (loopBody Try.prog (24 : Nat) (0 : Nat)) (loopBody Try.prog (24 : Nat) (0 : Nat)) ∧ ∃ (y4 : LInv.ι L24), ((1 : Int) ≤ Prod.fst (Prod.fst y4) ∧ Prod.fst
(Prod.fst y4) ≤ (16 : Int) ∧ (∀ (y5 : Int), y5 ∈ Prod.snd (Prod.fst y4) → (0 : Int) ≤ y5 ∧ y5 < Prod.fst (Prod.fst y4)) ∧ Prod.snd y4 ≤ List.length (Prod.snd (Prod.fst y4)) ∧ List.length (Prod.snd
(Prod.fst y4)) ≤ (10000 : Nat)) ∧ ((True ∧ True ∧ True ∧ True ∧ True ∧ True ∧ ((0 : Nat) = (0 : Nat) ∧ (1 : Nat) = pages (Prod.fst (Prod.fst y4))) ∧ True ∧ True ∧ True ∧ True ∧ True ∧ True ∧ True ∧
True ∧ True ∧ True ∧ True ∧ True ∧ True ∧ True ∧ True ∧ True ∧ (List.length l = List.length (Prod.snd (Prod.fst y4)) ∧ SC.rows (eI IntKind.i64) (1 : Nat) (1 : Nat) true l = SC.rows (eI IntKind.i64) (1
: Nat) (1 : Nat) true (Prod.snd (Prod.fst y4))) ∧ (↑(List.length l) : Int) = (↑(List.length (Prod.snd (Prod.fst y4))) : Int) ∧ (0 : Int) = (↑(Prod.snd y4) : Int) ∧ True ∧ True ∧ True ∧ True ∧ True ∧
True ∧ True ∧ True ∧ True ∧ True ∧ True ∧ True ∧ True ∧ True ∧ True) ∧ (ROK eB (1 : Nat) (1 : Nat) true ∧ sles [SV.int IntKind.u8 (SI.lit (0 : Int))] (List.flatMap eB (ofP (Prod.fst (Prod.fst y4))
(List.take (Prod.snd y4) (Prod.snd (Prod.fst y4)))))) ∧ True) ∧ (∀ (y5 : LInv.ι L24), True) ∧ (∀ (y5 : LInv.Ω L24), LInv.PE L24 y4 y5 → pages (Prod.fst y5) ≤ List.length (ofP (Prod.fst y5) (Prod.snd
y5)) ∧ (pages (Prod.fst y5) = List.length x ∧ SC.rows eB (1 : Nat) (1 : Nat) true (List.take (pages (Prod.fst y5)) (rdrop (SN.lit (0 : Nat)) (ofP (Prod.fst y5) (Prod.snd y5)))) = SC.rows eB (1 : Nat)
(1 : Nat) true x) ∧ (0 : Int) = e ∧ True) ∧ True)) := by kernel_rfl
theorem vc_Of9 (l : List Int) (x : List Int) (e : Int) : (scallI sx24 Try.prog cfO (sexec sx24 Try.prog cfO 1000) 24 0 [.int .i64 (.lit 9), rowJ l] (post (.tup [row x, .int .i64 (.sym e)]))) = (∃ (y3 : List Int × Int), ((List.length l = List.length (Prod.fst y3) ∧ SC.rows (eI IntKind.i64) (1 : Nat) (1 : Nat) true l = SC.rows (eI IntKind.i64) (1 : Nat) (1 : Nat) true (Prod.fst y3)) ∧ (Fn.func
(44 : Nat) = Fn.func (44 : FuncId) ∧ True ∧ ((9 : Int) = Prod.snd y3 ∧ True) ∧ True) ∧ True) ∧ List.length (Prod.fst y3) ≤ (10000 : Nat) ∧ (¬InR (Prod.snd y3) (Prod.fst y3) → (List.length x = (0 :
Nat) ∧ ∀ (y4 : Int), List.length (eB y4) = (1 : Nat) ∧ (∀ (y5 : SV), y5 ∈ eB y4 → imm (1 : Nat) y5 ∧ SV.one y5 = true) ∧ (true = true → ∀ (y5 : SV), y5 ∈ eB y4 → scalar y5)) ∧ (2 : Int) = e ∧ True) ∧
(¬¬InR (Prod.snd y3) (Prod.fst y3) → SameCode (loopBody Try.prog (24 : Nat) (0 : Nat)) (loopBody Try.prog (24 : Nat) (0 : Nat)) ∧ ∃ (y4 : LInv.ι L24), ((1 : Int) ≤ Prod.fst (Prod.fst y4) ∧ Prod.fst
(Prod.fst y4) ≤ (16 : Int) ∧ (∀ (y5 : Int), y5 ∈ Prod.snd (Prod.fst y4) → (0 : Int) ≤ y5 ∧ y5 < Prod.fst (Prod.fst y4)) ∧ Prod.snd y4 ≤ List.length (Prod.snd (Prod.fst y4)) ∧ List.length (Prod.snd
(Prod.fst y4)) ≤ (10000 : Nat)) ∧ ((True ∧ True ∧ True ∧ True ∧ True ∧ True ∧ ((0 : Nat) = (0 : Nat) ∧ (2 : Nat) = pages (Prod.fst (Prod.fst y4))) ∧ True ∧ True ∧ True ∧ True ∧ True ∧ True ∧ True ∧
True ∧ True ∧ True ∧ True ∧ True ∧ True ∧ True ∧ True ∧ True ∧ (List.length l = List.length (Prod.snd (Prod.fst y4)) ∧ SC.rows (eI IntKind.i64) (1 : Nat) (1 : Nat) true l = SC.rows (eI IntKind.i64) (1
: Nat) (1 : Nat) true (Prod.snd (Prod.fst y4))) ∧ (↑(List.length l) : Int) = (↑(List.length (Prod.snd (Prod.fst y4))) : Int) ∧ (0 : Int) = (↑(Prod.snd y4) : Int) ∧ True ∧ True ∧ True ∧ True ∧ True ∧
True ∧ True ∧ True ∧ True ∧ True ∧ True ∧ True ∧ True ∧ True ∧ True) ∧ (ROK eB (1 : Nat) (1 : Nat) true ∧ sles [SV.int IntKind.u8 (SI.lit (0 : Int)), SV.int IntKind.u8 (SI.lit (0 : Int))]
(List.flatMap eB (ofP (Prod.fst (Prod.fst y4)) (List.take (Prod.snd y4) (Prod.snd (Prod.fst y4)))))) ∧ True) ∧ (∀ (y5 : LInv.ι L24), True) ∧ (∀ (y5 : LInv.Ω L24), LInv.PE L24 y4 y5 → pages (Prod.fst
y5) ≤ List.length (ofP (Prod.fst y5) (Prod.snd y5)) ∧ (pages (Prod.fst y5) = List.length x ∧ SC.rows eB (1 : Nat) (1 : Nat) true (List.take (pages (Prod.fst y5)) (rdrop (SN.lit (0 : Nat)) (ofP
(Prod.fst y5) (Prod.snd y5)))) = SC.rows eB (1 : Nat) (1 : Nat) true x) ∧ (0 : Int) = e ∧ True) ∧ True)) := by kernel_rfl
theorem vc_Of10 (l : List Int) (x : List Int) (e : Int) : (scallI sx24 Try.prog cfO (sexec sx24 Try.prog cfO 1000) 24 0 [.int .i64 (.lit 10), rowJ l] (post (.tup [row x, .int .i64 (.sym e)]))) = (∃ (y3 : List Int × Int), ((List.length l = List.length (Prod.fst y3) ∧ SC.rows (eI IntKind.i64) (1 : Nat) (1 : Nat) true l = SC.rows (eI IntKind.i64) (1 : Nat) (1 : Nat) true (Prod.fst y3)) ∧ (Fn.func
(44 : Nat) = Fn.func (44 : FuncId) ∧ True ∧ ((10 : Int) = Prod.snd y3 ∧ True) ∧ True) ∧ True) ∧ List.length (Prod.fst y3) ≤ (10000 : Nat) ∧ (¬InR (Prod.snd y3) (Prod.fst y3) → (List.length x = (0 :
Nat) ∧ ∀ (y4 : Int), List.length (eB y4) = (1 : Nat) ∧ (∀ (y5 : SV), y5 ∈ eB y4 → imm (1 : Nat) y5 ∧ SV.one y5 = true) ∧ (true = true → ∀ (y5 : SV), y5 ∈ eB y4 → scalar y5)) ∧ (2 : Int) = e ∧ True) ∧
(¬¬InR (Prod.snd y3) (Prod.fst y3) → SameCode (loopBody Try.prog (24 : Nat) (0 : Nat)) (loopBody Try.prog (24 : Nat) (0 : Nat)) ∧ ∃ (y4 : LInv.ι L24), ((1 : Int) ≤ Prod.fst (Prod.fst y4) ∧ Prod.fst
(Prod.fst y4) ≤ (16 : Int) ∧ (∀ (y5 : Int), y5 ∈ Prod.snd (Prod.fst y4) → (0 : Int) ≤ y5 ∧ y5 < Prod.fst (Prod.fst y4)) ∧ Prod.snd y4 ≤ List.length (Prod.snd (Prod.fst y4)) ∧ List.length (Prod.snd
(Prod.fst y4)) ≤ (10000 : Nat)) ∧ ((True ∧ True ∧ True ∧ True ∧ True ∧ True ∧ ((0 : Nat) = (0 : Nat) ∧ (2 : Nat) = pages (Prod.fst (Prod.fst y4))) ∧ True ∧ True ∧ True ∧ True ∧ True ∧ True ∧ True ∧
True ∧ True ∧ True ∧ True ∧ True ∧ True ∧ True ∧ True ∧ True ∧ (List.length l = List.length (Prod.snd (Prod.fst y4)) ∧ SC.rows (eI IntKind.i64) (1 : Nat) (1 : Nat) true l = SC.rows (eI IntKind.i64) (1
: Nat) (1 : Nat) true (Prod.snd (Prod.fst y4))) ∧ (↑(List.length l) : Int) = (↑(List.length (Prod.snd (Prod.fst y4))) : Int) ∧ (0 : Int) = (↑(Prod.snd y4) : Int) ∧ True ∧ True ∧ True ∧ True ∧ True ∧
True ∧ True ∧ True ∧ True ∧ True ∧ True ∧ True ∧ True ∧ True ∧ True) ∧ (ROK eB (1 : Nat) (1 : Nat) true ∧ sles [SV.int IntKind.u8 (SI.lit (0 : Int)), SV.int IntKind.u8 (SI.lit (0 : Int))]
(List.flatMap eB (ofP (Prod.fst (Prod.fst y4)) (List.take (Prod.snd y4) (Prod.snd (Prod.fst y4)))))) ∧ True) ∧ (∀ (y5 : LInv.ι L24), True) ∧ (∀ (y5 : LInv.Ω L24), LInv.PE L24 y4 y5 → pages (Prod.fst
y5) ≤ List.length (ofP (Prod.fst y5) (Prod.snd y5)) ∧ (pages (Prod.fst y5) = List.length x ∧ SC.rows eB (1 : Nat) (1 : Nat) true (List.take (pages (Prod.fst y5)) (rdrop (SN.lit (0 : Nat)) (ofP
(Prod.fst y5) (Prod.snd y5)))) = SC.rows eB (1 : Nat) (1 : Nat) true x) ∧ (0 : Int) = e ∧ True) ∧ True)) := by kernel_rfl
theorem vc_Of11 (l : List Int) (x : List Int) (e : Int) : (scallI sx24 Try.prog cfO (sexec sx24 Try.prog cfO 1000) 24 0 [.int .i64 (.lit 11), rowJ l] (post (.tup [row x, .int .i64 (.sym e)]))) = (∃ (y3 : List Int × Int), ((List.length l = List.length (Prod.fst y3) ∧ SC.rows (eI IntKind.i64) (1 : Nat) (1 : Nat) true l = SC.rows (eI IntKind.i64) (1 : Nat) (1 : Nat) true (Prod.fst y3)) ∧ (Fn.func
(44 : Nat) = Fn.func (44 : FuncId) ∧ True ∧ ((11 : Int) = Prod.snd y3 ∧ True) ∧ True) ∧ True) ∧ List.length (Prod.fst y3) ≤ (10000 : Nat) ∧ (¬InR (Prod.snd y3) (Prod.fst y3) → (List.length x = (0 :
Nat) ∧ ∀ (y4 : Int), List.length (eB y4) = (1 : Nat) ∧ (∀ (y5 : SV), y5 ∈ eB y4 → imm (1 : Nat) y5 ∧ SV.one y5 = true) ∧ (true = true → ∀ (y5 : SV), y5 ∈ eB y4 → scalar y5)) ∧ (2 : Int) = e ∧ True) ∧
(¬¬InR (Prod.snd y3) (Prod.fst y3) → SameCode (loopBody Try.prog (24 : Nat) (0 : Nat)) (loopBody Try.prog (24 : Nat) (0 : Nat)) ∧ ∃ (y4 : LInv.ι L24), ((1 : Int) ≤ Prod.fst (Prod.fst y4) ∧ Prod.fst
(Prod.fst y4) ≤ (16 : Int) ∧ (∀ (y5 : Int), y5 ∈ Prod.snd (Prod.fst y4) → (0 : Int) ≤ y5 ∧ y5 < Prod.fst (Prod.fst y4)) ∧ Prod.snd y4 ≤ List.length (Prod.snd (Prod.fst y4)) ∧ List.length (Prod.snd
(Prod.fst y4)) ≤ (10000 : Nat)) ∧ ((True ∧ True ∧ True ∧ True ∧ True ∧ True ∧ ((0 : Nat) = (0 : Nat) ∧ (2 : Nat) = pages (Prod.fst (Prod.fst y4))) ∧ True ∧ True ∧ True ∧ True ∧ True ∧ True ∧ True ∧
True ∧ True ∧ True ∧ True ∧ True ∧ True ∧ True ∧ True ∧ True ∧ (List.length l = List.length (Prod.snd (Prod.fst y4)) ∧ SC.rows (eI IntKind.i64) (1 : Nat) (1 : Nat) true l = SC.rows (eI IntKind.i64) (1
: Nat) (1 : Nat) true (Prod.snd (Prod.fst y4))) ∧ (↑(List.length l) : Int) = (↑(List.length (Prod.snd (Prod.fst y4))) : Int) ∧ (0 : Int) = (↑(Prod.snd y4) : Int) ∧ True ∧ True ∧ True ∧ True ∧ True ∧
True ∧ True ∧ True ∧ True ∧ True ∧ True ∧ True ∧ True ∧ True ∧ True) ∧ (ROK eB (1 : Nat) (1 : Nat) true ∧ sles [SV.int IntKind.u8 (SI.lit (0 : Int)), SV.int IntKind.u8 (SI.lit (0 : Int))]
(List.flatMap eB (ofP (Prod.fst (Prod.fst y4)) (List.take (Prod.snd y4) (Prod.snd (Prod.fst y4)))))) ∧ True) ∧ (∀ (y5 : LInv.ι L24), True) ∧ (∀ (y5 : LInv.Ω L24), LInv.PE L24 y4 y5 → pages (Prod.fst
y5) ≤ List.length (ofP (Prod.fst y5) (Prod.snd y5)) ∧ (pages (Prod.fst y5) = List.length x ∧ SC.rows eB (1 : Nat) (1 : Nat) true (List.take (pages (Prod.fst y5)) (rdrop (SN.lit (0 : Nat)) (ofP
(Prod.fst y5) (Prod.snd y5)))) = SC.rows eB (1 : Nat) (1 : Nat) true x) ∧ (0 : Int) = e ∧ True) ∧ True)) := by kernel_rfl
theorem vc_Of12 (l : List Int) (x : List Int) (e : Int) : (scallI sx24 Try.prog cfO (sexec sx24 Try.prog cfO 1000) 24 0 [.int .i64 (.lit 12), rowJ l] (post (.tup [row x, .int .i64 (.sym e)]))) = (∃ (y3 : List Int × Int), ((List.length l = List.length (Prod.fst y3) ∧ SC.rows (eI IntKind.i64) (1 : Nat) (1 : Nat) true l = SC.rows (eI IntKind.i64) (1 : Nat) (1 : Nat) true (Prod.fst y3)) ∧ (Fn.func
(44 : Nat) = Fn.func (44 : FuncId) ∧ True ∧ ((12 : Int) = Prod.snd y3 ∧ True) ∧ True) ∧ True) ∧ List.length (Prod.fst y3) ≤ (10000 : Nat) ∧ (¬InR (Prod.snd y3) (Prod.fst y3) → (List.length x = (0 :
Nat) ∧ ∀ (y4 : Int), List.length (eB y4) = (1 : Nat) ∧ (∀ (y5 : SV), y5 ∈ eB y4 → imm (1 : Nat) y5 ∧ SV.one y5 = true) ∧ (true = true → ∀ (y5 : SV), y5 ∈ eB y4 → scalar y5)) ∧ (2 : Int) = e ∧ True) ∧
(¬¬InR (Prod.snd y3) (Prod.fst y3) → SameCode (loopBody Try.prog (24 : Nat) (0 : Nat)) (loopBody Try.prog (24 : Nat) (0 : Nat)) ∧ ∃ (y4 : LInv.ι L24), ((1 : Int) ≤ Prod.fst (Prod.fst y4) ∧ Prod.fst
(Prod.fst y4) ≤ (16 : Int) ∧ (∀ (y5 : Int), y5 ∈ Prod.snd (Prod.fst y4) → (0 : Int) ≤ y5 ∧ y5 < Prod.fst (Prod.fst y4)) ∧ Prod.snd y4 ≤ List.length (Prod.snd (Prod.fst y4)) ∧ List.length (Prod.snd
(Prod.fst y4)) ≤ (10000 : Nat)) ∧ ((True ∧ True ∧ True ∧ True ∧ True ∧ True ∧ ((0 : Nat) = (0 : Nat) ∧ (2 : Nat) = pages (Prod.fst (Prod.fst y4))) ∧ True ∧ True ∧ True ∧ True ∧ True ∧ True ∧ True ∧
True ∧ True ∧ True ∧ True ∧ True ∧ True ∧ True ∧ True ∧ True ∧ (List.length l = List.length (Prod.snd (Prod.fst y4)) ∧ SC.rows (eI IntKind.i64) (1 : Nat) (1 : Nat) true l = SC.rows (eI IntKind.i64) (1
: Nat) (1 : Nat) true (Prod.snd (Prod.fst y4))) ∧ (↑(List.length l) : Int) = (↑(List.length (Prod.snd (Prod.fst y4))) : Int) ∧ (0 : Int) = (↑(Prod.snd y4) : Int) ∧ True ∧ True ∧ True ∧ True ∧ True ∧
True ∧ True ∧ True ∧ True ∧ True ∧ True ∧ True ∧ True ∧ True ∧ True) ∧ (ROK eB (1 : Nat) (1 : Nat) true ∧ sles [SV.int IntKind.u8 (SI.lit (0 : Int)), SV.int IntKind.u8 (SI.lit (0 : Int))]
(List.flatMap eB (ofP (Prod.fst (Prod.fst y4)) (List.take (Prod.snd y4) (Prod.snd (Prod.fst y4)))))) ∧ True) ∧ (∀ (y5 : LInv.ι L24), True) ∧ (∀ (y5 : LInv.Ω L24), LInv.PE L24 y4 y5 → pages (Prod.fst
y5) ≤ List.length (ofP (Prod.fst y5) (Prod.snd y5)) ∧ (pages (Prod.fst y5) = List.length x ∧ SC.rows eB (1 : Nat) (1 : Nat) true (List.take (pages (Prod.fst y5)) (rdrop (SN.lit (0 : Nat)) (ofP
(Prod.fst y5) (Prod.snd y5)))) = SC.rows eB (1 : Nat) (1 : Nat) true x) ∧ (0 : Int) = e ∧ True) ∧ True)) := by kernel_rfl
theorem vc_Of13 (l : List Int) (x : List Int) (e : Int) : (scallI sx24 Try.prog cfO (sexec sx24 Try.prog cfO 1000) 24 0 [.int .i64 (.lit 13), rowJ l] (post (.tup [row x, .int .i64 (.sym e)]))) = (∃ (y3 : List Int × Int), ((List.length l = List.length (Prod.fst y3) ∧ SC.rows (eI IntKind.i64) (1 : Nat) (1 : Nat) true l = SC.rows (eI IntKind.i64) (1 : Nat) (1 : Nat) true (Prod.fst y3)) ∧ (Fn.func
(44 : Nat) = Fn.func (44 : FuncId) ∧ True ∧ ((13 : Int) = Prod.snd y3 ∧ True) ∧ True) ∧ True) ∧ List.length (Prod.fst y3) ≤ (10000 : Nat) ∧ (¬InR (Prod.snd y3) (Prod.fst y3) → (List.length x = (0 :
Nat) ∧ ∀ (y4 : Int), List.length (eB y4) = (1 : Nat) ∧ (∀ (y5 : SV), y5 ∈ eB y4 → imm (1 : Nat) y5 ∧ SV.one y5 = true) ∧ (true = true → ∀ (y5 : SV), y5 ∈ eB y4 → scalar y5)) ∧ (2 : Int) = e ∧ True) ∧
(¬¬InR (Prod.snd y3) (Prod.fst y3) → SameCode (loopBody Try.prog (24 : Nat) (0 : Nat)) (loopBody Try.prog (24 : Nat) (0 : Nat)) ∧ ∃ (y4 : LInv.ι L24), ((1 : Int) ≤ Prod.fst (Prod.fst y4) ∧ Prod.fst
(Prod.fst y4) ≤ (16 : Int) ∧ (∀ (y5 : Int), y5 ∈ Prod.snd (Prod.fst y4) → (0 : Int) ≤ y5 ∧ y5 < Prod.fst (Prod.fst y4)) ∧ Prod.snd y4 ≤ List.length (Prod.snd (Prod.fst y4)) ∧ List.length (Prod.snd
(Prod.fst y4)) ≤ (10000 : Nat)) ∧ ((True ∧ True ∧ True ∧ True ∧ True ∧ True ∧ ((0 : Nat) = (0 : Nat) ∧ (2 : Nat) = pages (Prod.fst (Prod.fst y4))) ∧ True ∧ True ∧ True ∧ True ∧ True ∧ True ∧ True ∧
True ∧ True ∧ True ∧ True ∧ True ∧ True ∧ True ∧ True ∧ True ∧ (List.length l = List.length (Prod.snd (Prod.fst y4)) ∧ SC.rows (eI IntKind.i64) (1 : Nat) (1 : Nat) true l = SC.rows (eI IntKind.i64) (1
: Nat) (1 : Nat) true (Prod.snd (Prod.fst y4))) ∧ (↑(List.length l) : Int) = (↑(List.length (Prod.snd (Prod.fst y4))) : Int) ∧ (0 : Int) = (↑(Prod.snd y4) : Int) ∧ True ∧ True ∧ True ∧ True ∧ True ∧
True ∧ True ∧ True ∧ True ∧ True ∧ True ∧ True ∧ True ∧ True ∧ True) ∧ (ROK eB (1 : Nat) (1 : Nat) true ∧ sles [SV.int IntKind.u8 (SI.lit (0 : Int)), SV.int IntKind.u8 (SI.lit (0 : Int))]
(List.flatMap eB (ofP (Prod.fst (Prod.fst y4)) (List.take (Prod.snd y4) (Prod.snd (Prod.fst y4)))))) ∧ True) ∧ (∀ (y5 : LInv.ι L24), True) ∧ (∀ (y5 : LInv.Ω L24), LInv.PE L24 y4 y5 → pages (Prod.fst
y5) ≤ List.length (ofP (Prod.fst y5) (Prod.snd y5)) ∧ (pages (Prod.fst y5) = List.length x ∧ SC.rows eB (1 : Nat) (1 : Nat) true (List.take (pages (Prod.fst y5)) (rdrop (SN.lit (0 : Nat)) (ofP
(Prod.fst y5) (Prod.snd y5)))) = SC.rows eB (1 : Nat) (1 : Nat) true x) ∧ (0 : Int) = e ∧ True) ∧ True)) := by kernel_rfl
theorem vc_Of14 (l : List Int) (x : List Int) (e : Int) : (scallI sx24 Try.prog cfO (sexec sx24 Try.prog cfO 1000) 24 0 [.int .i64 (.lit 14), rowJ l] (post (.tup [row x, .int .i64 (.sym e)]))) = (∃ (y3 : List Int × Int), ((List.length l = List.length (Prod.fst y3) ∧ SC.rows (eI IntKind.i64) (1 : Nat) (1 : Nat) true l = SC.rows (eI IntKind.i64) (1 : Nat) (1 : Nat) true (Prod.fst y3)) ∧ (Fn.func
(44 : Nat) = Fn.func (44 : FuncId) ∧ True ∧ ((14 : Int) = Prod.snd y3 ∧ True) ∧ True) ∧ True) ∧ List.length (Prod.fst y3) ≤ (10000 : Nat) ∧ (¬InR (Prod.snd y3) (Prod.fst y3) → (List.length x = (0 :
Nat) ∧ ∀ (y4 : Int), List.length (eB y4) = (1 : Nat) ∧ (∀ (y5 : SV), y5 ∈ eB y4 → imm (1 : Nat) y5 ∧ SV.one y5 = true) ∧ (true = true → ∀ (y5 : SV), y5 ∈ eB y4 → scalar y5)) ∧ (2 : Int) = e ∧ True) ∧
(¬¬InR (Prod.snd y3) (Prod.fst y3) → SameCode (loopBody Try.prog (24 : Nat) (0 : Nat)) (loopBody Try.prog (24 : Nat) (0 : Nat)) ∧ ∃ (y4 : LInv.ι L24), ((1 : Int) ≤ Prod.fst (Prod.fst y4) ∧ Prod.fst
(Prod.fst y4) ≤ (16 : Int) ∧ (∀ (y5 : Int), y5 ∈ Prod.snd (Prod.fst y4) → (0 : Int) ≤ y5 ∧ y5 < Prod.fst (Prod.fst y4)) ∧ Prod.snd y4 ≤ List.length (Prod.snd (Prod.fst y4)) ∧ List.length (Prod.snd
(Prod.fst y4)) ≤ (10000 : Nat)) ∧ ((True ∧ True ∧ True ∧ True ∧ True ∧ True ∧ ((0 : Nat) = (0 : Nat) ∧ (2 : Nat) = pages (Prod.fst (Prod.fst y4))) ∧ True ∧ True ∧ True ∧ True ∧ True ∧ True ∧ True ∧
True ∧ True ∧ True ∧ True ∧ True ∧ True ∧ True ∧ True ∧ True ∧ (List.length l = List.length (Prod.snd (Prod.fst y4)) ∧ SC.rows (eI IntKind.i64) (1 : Nat) (1 : Nat) true l = SC.rows (eI IntKind.i64) (1
: Nat) (1 : Nat) true (Prod.snd (Prod.fst y4))) ∧ (↑(List.length l) : Int) = (↑(List.length (Prod.snd (Prod.fst y4))) : Int) ∧ (0 : Int) = (↑(Prod.snd y4) : Int) ∧ True ∧ True ∧ True ∧ True ∧ True ∧
True ∧ True ∧ True ∧ True ∧ True ∧ True ∧ True ∧ True ∧ True ∧ True) ∧ (ROK eB (1 : Nat) (1 : Nat) true ∧ sles [SV.int IntKind.u8 (SI.lit (0 : Int)), SV.int IntKind.u8 (SI.lit (0 : Int))]
(List.flatMap eB (ofP (Prod.fst (Prod.fst y4)) (List.take (Prod.snd y4) (Prod.snd (Prod.fst y4)))))) ∧ True) ∧ (∀ (y5 : LInv.ι L24), True) ∧ (∀ (y5 : LInv.Ω L24), LInv.PE L24 y4 y5 → pages (Prod.fst
y5) ≤ List.length (ofP (Prod.fst y5) (Prod.snd y5)) ∧ (pages (Prod.fst y5) = List.length x ∧ SC.rows eB (1 : Nat) (1 : Nat) true (List.take (pages (Prod.fst y5)) (rdrop (SN.lit (0 : Nat)) (ofP
(Prod.fst y5) (Prod.snd y5)))) = SC.rows eB (1 : Nat) (1 : Nat) true x) ∧ (0 : Int) = e ∧ True) ∧ True)) := by kernel_rfl
theorem vc_Of15 (l : List Int) (x : List Int) (e : Int) : (scallI sx24 Try.prog cfO (sexec sx24 Try.prog cfO 1000) 24 0 [.int .i64 (.lit 15), rowJ l] (post (.tup [row x, .int .i64 (.sym e)]))) = (∃ (y3 : List Int × Int), ((List.length l = List.length (Prod.fst y3) ∧ SC.rows (eI IntKind.i64) (1 : Nat) (1 : Nat) true l = SC.rows (eI IntKind.i64) (1 : Nat) (1 : Nat) true (Prod.fst y3)) ∧ (Fn.func
(44 : Nat) = Fn.func (44 : FuncId) ∧ True ∧ ((15 : Int) = Prod.snd y3 ∧ True) ∧ True) ∧ True) ∧ List.length (Prod.fst y3) ≤ (10000 : Nat) ∧ (¬InR (Prod.snd y3) (Prod.fst y3) → (List.length x = (0 :
Nat) ∧ ∀ (y4 : Int), List.length (eB y4) = (1 : Nat) ∧ (∀ (y5 : SV), y5 ∈ eB y4 → imm (1 : Nat) y5 ∧ SV.one y5 = true) ∧ (true = true → ∀ (y5 : SV), y5 ∈ eB y4 → scalar y5)) ∧ (2 : Int) = e ∧ True) ∧
(¬¬InR (Prod.snd y3) (Prod.fst y3) → SameCode (loopBody Try.prog (24 : Nat) (0 : Nat)) (loopBody Try.prog (24 : Nat) (0 : Nat)) ∧ ∃ (y4 : LInv.ι L24), ((1 : Int) ≤ Prod.fst (Prod.fst y4) ∧ Prod.fst
(Prod.fst y4) ≤ (16 : Int) ∧ (∀ (y5 : Int), y5 ∈ Prod.snd (Prod.fst y4) → (0 : Int) ≤ y5 ∧ y5 < Prod.fst (Prod.fst y4)) ∧ Prod.snd y4 ≤ List.length (Prod.snd (Prod.fst y4)) ∧ List.length (Prod.snd
(Prod.fst y4)) ≤ (10000 : Nat)) ∧ ((True ∧ True ∧ True ∧ True ∧ True ∧ True ∧ ((0 : Nat) = (0 : Nat) ∧ (2 : Nat) = pages (Prod.fst (Prod.fst y4))) ∧ True ∧ True ∧ True ∧ True ∧ True ∧ True ∧ True ∧
True ∧ True ∧ True ∧ True ∧ True ∧ True ∧ True ∧ True ∧ True ∧ (List.length l = List.length (Prod.snd (Prod.fst y4)) ∧ SC.rows (eI IntKind.i64) (1 : Nat) (1 : Nat) true l = SC.rows (eI IntKind.i64) (1
: Nat) (1 : Nat) true (Prod.snd (Prod.fst y4))) ∧ (↑(List.length l) : Int) = (↑(List.length (Prod.snd (Prod.fst y4))) : Int) ∧ (0 : Int) = (↑(Prod.snd y4) : Int) ∧ True ∧ True ∧ True ∧ True ∧ True ∧
True ∧ True ∧ True ∧ True ∧ True ∧ True ∧ True ∧ True ∧ True ∧ True) ∧ (ROK eB (1 : Nat) (1 : Nat) true ∧ sles [SV.int IntKind.u8 (SI.lit (0 : Int)), SV.int IntKind.u8 (SI.lit (0 : Int))]
(List.flatMap eB (ofP (Prod.fst (Prod.fst y4)) (List.take (Prod.snd y4) (Prod.snd (Prod.fst y4)))))) ∧ True) ∧ (∀ (y5 : LInv.ι L24), True) ∧ (∀ (y5 : LInv.Ω L24), LInv.PE L24 y4 y5 → pages (Prod.fst
y5) ≤ List.length (ofP (Prod.fst y5) (Prod.snd y5)) ∧ (pages (Prod.fst y5) = List.length x ∧ SC.rows eB (1 : Nat) (1 : Nat) true (List.take (pages (Prod.fst y5)) (rdrop (SN.lit (0 : Nat)) (ofP
(Prod.fst y5) (Prod.snd y5)))) = SC.rows eB (1 : Nat) (1 : Nat) true x) ∧ (0 : Int) = e ∧ True) ∧ True)) := by kernel_rfl
theorem vc_Of16 (l : List Int) (x : List Int) (e : Int) : (scallI sx24 Try.prog cfO (sexec sx24 Try.prog cfO 1000) 24 0 [.int .i64 (.lit 16), rowJ l] (post (.tup [row x, .int .i64 (.sym e)]))) = (∃ (y3 : List Int × Int), ((List.length l = List.length (Prod.fst y3) ∧ SC.rows (eI IntKind.i64) (1 : Nat) (1 : Nat) true l = SC.rows (eI IntKind.i64) (1 : Nat) (1 : Nat) true (Prod.fst y3)) ∧ (Fn.func
(44 : Nat) = Fn.func (44 : FuncId) ∧ True ∧ ((16 : Int) = Prod.snd y3 ∧ True) ∧ True) ∧ True) ∧ List.length (Prod.fst y3) ≤ (10000 : Nat) ∧ (¬InR (Prod.snd y3) (Prod.fst y3) → (List.length x = (0 :
Nat) ∧ ∀ (y4 : Int), List.length (eB y4) = (1 : Nat) ∧ (∀ (y5 : SV), y5 ∈ eB y4 → imm (1 : Nat) y5 ∧ SV.one y5 = true) ∧ (true = true → ∀ (y5 : SV), y5 ∈ eB y4 → scalar y5)) ∧ (2 : Int) = e ∧ True) ∧
(¬¬InR (Prod.snd y3) (Prod.fst y3) → SameCode (loopBody Try.prog (24 : Nat) (0 : Nat)) (loopBody Try.prog (24 : Nat) (0 : Nat)) ∧ ∃ (y4 : LInv.ι L24), ((1 : Int) ≤ Prod.fst (Prod.fst y4) ∧ Prod.fst
(Prod.fst y4) ≤ (16 : Int) ∧ (∀ (y5 : Int), y5 ∈ Prod.snd (Prod.fst y4) → (0 : Int) ≤ y5 ∧ y5 < Prod.fst (Prod.fst y4)) ∧ Prod.snd y4 ≤ List.length (Prod.snd (Prod.fst y4)) ∧ List.length (Prod.snd
(Prod.fst y4)) ≤ (10000 : Nat)) ∧ ((True ∧ True ∧ True ∧ True ∧ True ∧ True ∧ ((0 : Nat) = (0 : Nat) ∧ (2 : Nat) = pages (Prod.fst (Prod.fst y4))) ∧ True ∧ True ∧ True ∧ True ∧ True ∧ True ∧ True ∧
True ∧ True ∧ True ∧ True ∧ True ∧ True ∧ True ∧ True ∧ True ∧ (List.length l = List.length (Prod.snd (Prod.fst y4)) ∧ SC.rows (eI IntKind.i64) (1 : Nat) (1 : Nat) true l = SC.rows (eI IntKind.i64) (1
: Nat) (1 : Nat) true (Prod.snd (Prod.fst y4))) ∧ (↑(List.length l) : Int) = (↑(List.length (Prod.snd (Prod.fst y4))) : Int) ∧ (0 : Int) = (↑(Prod.snd y4) : Int) ∧ True ∧ True ∧ True ∧ True ∧ True ∧
True ∧ True ∧ True ∧ True ∧ True ∧ True ∧ True ∧ True ∧ True ∧ True) ∧ (ROK eB (1 : Nat) (1 : Nat) true ∧ sles [SV.int IntKind.u8 (SI.lit (0 : Int)), SV.int IntKind.u8 (SI.lit (0 : Int))]
(List.flatMap eB (ofP (Prod.fst (Prod.fst y4)) (List.take (Prod.snd y4) (Prod.snd (Prod.fst y4)))))) ∧ True) ∧ (∀ (y5 : LInv.ι L24), True) ∧ (∀ (y5 : LInv.Ω L24), LInv.PE L24 y4 y5 → pages (Prod.fst
y5) ≤ List.length (ofP (Prod.fst y5) (Prod.snd y5)) ∧ (pages (Prod.fst y5) = List.length x ∧ SC.rows eB (1 : Nat) (1 : Nat) true (List.take (pages (Prod.fst y5)) (rdrop (SN.lit (0 : Nat)) (ofP
(Prod.fst y5) (Prod.snd y5)))) = SC.rows eB (1 : Nat) (1 : Nat) true x) ∧ (0 : Int) = e ∧ True) ∧ True)) := by kernel_rfl
theorem vc_OfE (n : Int) (l : List Int) (x : List Int) (e : Int) : (scallI sx24e Try.prog cfO (sexec sx24e Try.prog cfO 1000) 24 0 [.int .i64 (.sym n), rowJ l] (post (.tup [row x, .int .i64 (.sym e)]))) = (∃ (y4 : Int), (n = y4 ∧ True) ∧ True ∧ (¬sizeB y4 = true → (List.length x = (0 : Nat) ∧ ∀ (y5 : Int), List.length (eB y5) = (1 : Nat) ∧ (∀ (y6 : SV), y6 ∈ eB y5 → imm (1 : Nat) y6 ∧ SV.one y6 = true)
∧ (true = true → ∀ (y6 : SV), y6 ∈ eB y5 → scalar y6)) ∧ (2 : Int) = e ∧ True) ∧ (¬¬sizeB y4 = true → Stuck (998 : Nat))) := by kernel_rfl
theorem vc_sizeO (n : Int) (p : Prop) : (scallI sxO0 Try.prog cfO (sexec sxO0 Try.prog cfO 1000) 45 0 [.int .i64 (.sym n)] (post (.bool (.sym p)))) = (((1 : Int) ≤ n → (n ≤ (16 : Int) ↔ p)) ∧ (¬(1 : Int) ≤ n → (false = true ↔ p))) := by kernel_rfl
end
end Go.Proofs.Ytifgifhbefhkmaa.VM
/- Sets of tracks: the set of a list: the conditions hold. No conditions. -/
namespace Go.Proofs.Ytifgifhbefhkmaa.VM
open Go Go.RowKit
set_option linter.unusedVariables false
set_option linter.unusedSimpArgs false
set_option maxRecDepth 100000
noncomputable section
theorem extO_ok : ExtOK Try.prog cfO := extOK_none
theorem sxO0_ok : SXOK Try.prog cfO sxO0 := sxok_of all_nil all_nil
theorem L56_ok (a : L56.ι) (ha : L56.G a) : sexec sxO0 Try.prog cfO 1000 (loopBody Try.prog 56 0) (L56.I a) (L56.round 1000 a) := by
  rw [vc_L56]
  obtain ⟨⟨l, n⟩, t⟩ := a
  obtain ⟨g1, g2⟩ := ha
  have g1 : t ≤ l.length := g1
  have g2 : l.length ≤ 10000 := g2
  simp only [true_and, and_true, eq_self, Int.toNat_natCast]
  refine ⟨fun h1 => ⟨by omega, by omega, by omega, fun x hx => ⟨fun h2 => Exists.intro (t, ()) ⟨⟨by show t ≤ 10000; omega, x, hx, fun q => by omega⟩, rfl⟩, fun h2 => ⟨fun h3 => Exists.intro (t, ()) ⟨⟨by show t ≤ 10000; omega, x, hx, fun q => by have q2 := q.2; have q2 : x < n := q2; have h3 : n ≤ x := h3; omega⟩, rfl⟩, fun h3 => Exists.intro ((l, n), t + 1) ⟨⟨by show t + 1 ≤ l.length; omega, g2⟩, by show l.length - (t + 1) < l.length - t; omega, ?_, fun _ hp => hp, ⟨rfl, rfl⟩, rfl, rfl, nx (by omega)⟩⟩⟩⟩, fun h1 => Exists.intro () fun k x hk hx => ?_⟩
  · intro _ hp k y hk hy
    by_cases q : k = t
    · subst q
      rw [hx] at hy; cases hy
      have h3 : ¬ n ≤ x := h3
      show 0 ≤ x ∧ x < n
      omega
    · exact hp k y (by show t + 1 ≤ k; omega) hy
  · have := (List.getElem?_eq_some_iff.1 hx).1
    omega
theorem sx56_ok : SXOK Try.prog cfO sx56 := sxok_lp all_nil (all_cons (inv_vc (m := 1000) sxO0_ok L56_ok) all_nil)
theorem idx_ok : CtOK Try.prog cfO 43 ctIdx := ct_vc (m := 1000) sx56_ok fun a h => by
  obtain ⟨l, n⟩ := a
  have h : l.length ≤ 10000 := h
  rw [vc_Idx]
  simp only [true_and, and_true, eq_self, implies_true]
  refine ⟨SameCode.refl _, Exists.intro ((l, n), 0) ⟨⟨Nat.zero_le _, h⟩, ⟨⟨rfl, rfl⟩, rfl, rfl, rfl⟩, fun _ hp => ?_, fun k hp => ?_⟩⟩
  · constructor
    · intro q; cases q
    · intro q
      exact absurd (fun x hx => by
        obtain ⟨k, hk⟩ := List.mem_iff_getElem?.1 hx
        exact hp k x (Nat.zero_le _) hk) q
  · obtain ⟨_, x, hx, hn⟩ := hp
    constructor
    · intro _ q; exact hn (q x (List.mem_of_getElem? hx))
    · intro _; omega
theorem orN_u8 (a b : Int) : 0 ≤ orN a b ∧ orN a b < 256 := by
  unfold orN
  have : ∀ x : Int, IntKind.u8.wrap x = x % 256 := fun x => by simp [IntKind.wrap, IntKind.bits, IntKind.signed]
  rw [this]; omega
theorem putT_length (s : List Int) (t : Int) : (putT s t).length = s.length := by simp [putT]
theorem foldT_length : ∀ (l s : List Int), (l.foldl putT s).length = s.length
  | [], _ => rfl
  | t :: l, s => by rw [List.foldl_cons, foldT_length l, putT_length]
theorem ofP_length (n : Int) (l : List Int) : (ofP n l).length = pages n := by unfold ofP; rw [foldT_length]; simp
theorem ofP_take (n : Int) {l : List Int} {t : Nat} {x : Int} (h : l[t]? = some x) : ofP n (l.take (t + 1)) = putT (ofP n (l.take t)) x := by
  unfold ofP
  rw [List.take_add_one, h]
  simp [List.foldl_append]
theorem L24_ok (a : L24.ι) (ha : L24.G a) : sexec sxO0 Try.prog cfO 1000 (loopBody Try.prog 24 0) (L24.I a) (L24.round 1000 a) := by
  rw [vc_L24]
  obtain ⟨⟨n, l⟩, t⟩ := a
  obtain ⟨g1, g2, g3, g4, g5⟩ := ha
  have g1 : 1 ≤ n := g1
  have g2 : n ≤ 16 := g2
  have g3 : InR n l := g3
  have g4 : t ≤ l.length := g4
  have g5 : l.length ≤ 10000 := g5
  obtain ⟨p1, p2, p3⟩ := pages_le g1 g2
  have pl : ((pages n : Nat) : Int) = (n + 7) / 8 := by unfold pages; omega
  simp only [true_and, and_true, eq_self, Int.toNat_natCast, ofP_length]
  refine ⟨fun h1 => ⟨by omega, by omega, by omega, fun x hx => ?_⟩, fun h1 => Exists.intro (n, l) ⟨rfl, rfl, ?_⟩⟩
  · obtain ⟨x0, x1⟩ := g3 x (List.mem_of_getElem? hx)
    obtain ⟨m, rfl⟩ : ∃ m : Nat, x = m := ⟨x.toNat, by omega⟩
    have e1 : IntKind.i64.wrap (Int.tdiv (m : Int) 8) = ((m / 8 : Nat) : Int) := by rw [show Int.tdiv (m : Int) 8 = ((m / 8 : Nat) : Int) from rfl, wr_i64 (by omega) (by omega)]
    have e2 : Int.tmod (m : Int) 8 = ((m % 8 : Nat) : Int) := rfl
    rw [e1, e2]
    simp only [Int.toNat_natCast]
    have hm : m / 8 < pages n := by omega
    refine ⟨by omega, by omega, hm, fun y hy => ⟨by omega, by omega, by omega, hm, Exists.intro (orN y (bitI m)) ⟨?_, Exists.intro ((n, l), t + 1) ⟨⟨g1, g2, g3, by show t + 1 ≤ l.length; omega, g5⟩, by show l.length - (t + 1) < l.length - t; omega, fun o ho => ho, ⟨rfl, ⟨rfl, rfl⟩, rfl, nx (by omega)⟩, ?_⟩⟩⟩⟩
    · have e3 : IntKind.u8.wrap ((1 : Int) * 2 ^ min (m % 8) 8) = bitI m := by
        unfold bitI
        rw [Int.toNat_natCast, show min (m % 8) 8 = m % 8 by omega, Int.one_mul]
        have h7 : m % 8 < 8 := Nat.mod_lt _ (by decide)
        have : (2 : Int) ^ (m % 8) ≤ 128 ∧ 0 ≤ (2 : Int) ^ (m % 8) := by
          have : m % 8 = 0 ∨ m % 8 = 1 ∨ m % 8 = 2 ∨ m % 8 = 3 ∨ m % 8 = 4 ∨ m % 8 = 5 ∨ m % 8 = 6 ∨ m % 8 = 7 := by omega
          rcases this with q | q | q | q | q | q | q | q <;> rw [q] <;> decide
        rw [wr_u8 (by omega) (by omega)]
      rw [e3]; rfl
    · rw [ofP_take n hx]
      unfold putT
      rw [Int.toNat_natCast, List.getD_eq_getElem?_getD, hy]; rfl
  · have : t = l.length := by omega
    subst this
    rw [List.take_of_length_le (Nat.le_refl _)]
theorem sx24_ok : SXOK Try.prog cfO sx24 := sxok_lp (all_cons idx_ok all_nil) (all_cons (inv_vc (m := 1000) sxO0_ok L24_ok) all_nil)
theorem ofE_in {n : Int} {l : List Int} (h : sizeB n = true) (g : InR n l) : ofE n l = 0 := by unfold ofE; rw [if_pos ⟨h, g⟩]
theorem ofE_out {n : Int} {l : List Int} (g : ¬ (sizeB n = true ∧ InR n l)) : ofE n l = 2 := by unfold ofE; rw [if_neg g]
theorem ofL_in {n : Int} {l : List Int} (h : sizeB n = true) (g : InR n l) : ofL n l = ofP n l := by unfold ofL; rw [if_pos (ofE_in h g)]
theorem ofL_out {n : Int} {l : List Int} (g : ¬ (sizeB n = true ∧ InR n l)) : ofL n l = [] := by unfold ofL; rw [if_neg (by rw [ofE_out g]; decide)]
theorem row_take (n : Int) (l : List Int) : SC.rows eB 1 1 true (List.take (pages n) (rdrop (SN.lit 0) (ofP n l))) = SC.rows eB 1 1 true (ofP n l) := by
  show SC.rows eB 1 1 true (List.take (pages n) (ofP n l)) = _
  rw [List.take_of_length_le (by rw [ofP_length]; exact Nat.le_refl _)]
theorem of1_all (l : List Int) (hl : l.length ≤ 10000) : scallI sx24 Try.prog cfO (sexec sx24 Try.prog cfO 1000) 24 0 [.int .i64 (.lit 1), rowJ l] (post (.tup [row (ofL 1 l), .int .i64 (.sym (ofE 1 l))])) := by
  rw [vc_Of1]
  simp only [true_and, and_true, eq_self, implies_true]
  refine Exists.intro (l, 1) ⟨⟨⟨rfl, rfl⟩, rfl⟩, hl, fun h => ?_, fun h => ⟨SameCode.refl _, Exists.intro ((1, l), 0) ⟨⟨by show (1 : Int) ≤ 1; decide, by show (1 : Int) ≤ 16; decide, Classical.not_not.1 h, Nat.zero_le _, hl⟩, ⟨⟨rfl, ⟨rfl, rfl⟩, rfl, rfl⟩, rokB, by exact ⟨rfl, trivial⟩⟩, fun o ho => ?_⟩⟩⟩
  · have hn : ¬ (sizeB 1 = true ∧ InR 1 l) := fun q => h q.2
    rw [ofL_out hn, ofE_out hn]
    exact ⟨⟨rfl, ROK_eB'⟩, rfl⟩
  · have hi : InR 1 l := Classical.not_not.1 h
    have ho : o = (1, l) := ho
    subst ho
    rw [ofL_in (by decide) hi, ofE_in (by decide) hi]
    exact ⟨by rw [ofP_length]; exact Nat.le_refl _, ⟨(ofP_length _ _).symm, row_take _ _⟩, rfl⟩
theorem of2_all (l : List Int) (hl : l.length ≤ 10000) : scallI sx24 Try.prog cfO (sexec sx24 Try.prog cfO 1000) 24 0 [.int .i64 (.lit 2), rowJ l] (post (.tup [row (ofL 2 l), .int .i64 (.sym (ofE 2 l))])) := by
  rw [vc_Of2]
  simp only [true_and, and_true, eq_self, implies_true]
  refine Exists.intro (l, 2) ⟨⟨⟨rfl, rfl⟩, rfl⟩, hl, fun h => ?_, fun h => ⟨SameCode.refl _, Exists.intro ((2, l), 0) ⟨⟨by show (1 : Int) ≤ 2; decide, by show (2 : Int) ≤ 16; decide, Classical.not_not.1 h, Nat.zero_le _, hl⟩, ⟨⟨rfl, ⟨rfl, rfl⟩, rfl, rfl⟩, rokB, by exact ⟨rfl, trivial⟩⟩, fun o ho => ?_⟩⟩⟩
  · have hn : ¬ (sizeB 2 = true ∧ InR 2 l) := fun q => h q.2
    rw [ofL_out hn, ofE_out hn]
    exact ⟨⟨rfl, ROK_eB'⟩, rfl⟩
  · have hi : InR 2 l := Classical.not_not.1 h
    have ho : o = (2, l) := ho
    subst ho
    rw [ofL_in (by decide) hi, ofE_in (by decide) hi]
    exact ⟨by rw [ofP_length]; exact Nat.le_refl _, ⟨(ofP_length _ _).symm, row_take _ _⟩, rfl⟩
theorem of3_all (l : List Int) (hl : l.length ≤ 10000) : scallI sx24 Try.prog cfO (sexec sx24 Try.prog cfO 1000) 24 0 [.int .i64 (.lit 3), rowJ l] (post (.tup [row (ofL 3 l), .int .i64 (.sym (ofE 3 l))])) := by
  rw [vc_Of3]
  simp only [true_and, and_true, eq_self, implies_true]
  refine Exists.intro (l, 3) ⟨⟨⟨rfl, rfl⟩, rfl⟩, hl, fun h => ?_, fun h => ⟨SameCode.refl _, Exists.intro ((3, l), 0) ⟨⟨by show (1 : Int) ≤ 3; decide, by show (3 : Int) ≤ 16; decide, Classical.not_not.1 h, Nat.zero_le _, hl⟩, ⟨⟨rfl, ⟨rfl, rfl⟩, rfl, rfl⟩, rokB, by exact ⟨rfl, trivial⟩⟩, fun o ho => ?_⟩⟩⟩
  · have hn : ¬ (sizeB 3 = true ∧ InR 3 l) := fun q => h q.2
    rw [ofL_out hn, ofE_out hn]
    exact ⟨⟨rfl, ROK_eB'⟩, rfl⟩
  · have hi : InR 3 l := Classical.not_not.1 h
    have ho : o = (3, l) := ho
    subst ho
    rw [ofL_in (by decide) hi, ofE_in (by decide) hi]
    exact ⟨by rw [ofP_length]; exact Nat.le_refl _, ⟨(ofP_length _ _).symm, row_take _ _⟩, rfl⟩
theorem of4_all (l : List Int) (hl : l.length ≤ 10000) : scallI sx24 Try.prog cfO (sexec sx24 Try.prog cfO 1000) 24 0 [.int .i64 (.lit 4), rowJ l] (post (.tup [row (ofL 4 l), .int .i64 (.sym (ofE 4 l))])) := by
  rw [vc_Of4]
  simp only [true_and, and_true, eq_self, implies_true]
  refine Exists.intro (l, 4) ⟨⟨⟨rfl, rfl⟩, rfl⟩, hl, fun h => ?_, fun h => ⟨SameCode.refl _, Exists.intro ((4, l), 0) ⟨⟨by show (1 : Int) ≤ 4; decide, by show (4 : Int) ≤ 16; decide, Classical.not_not.1 h, Nat.zero_le _, hl⟩, ⟨⟨rfl, ⟨rfl, rfl⟩, rfl, rfl⟩, rokB, by exact ⟨rfl, trivial⟩⟩, fun o ho => ?_⟩⟩⟩
  · have hn : ¬ (sizeB 4 = true ∧ InR 4 l) := fun q => h q.2
    rw [ofL_out hn, ofE_out hn]
    exact ⟨⟨rfl, ROK_eB'⟩, rfl⟩
  · have hi : InR 4 l := Classical.not_not.1 h
    have ho : o = (4, l) := ho
    subst ho
    rw [ofL_in (by decide) hi, ofE_in (by decide) hi]
    exact ⟨by rw [ofP_length]; exact Nat.le_refl _, ⟨(ofP_length _ _).symm, row_take _ _⟩, rfl⟩
theorem of5_all (l : List Int) (hl : l.length ≤ 10000) : scallI sx24 Try.prog cfO (sexec sx24 Try.prog cfO 1000) 24 0 [.int .i64 (.lit 5), rowJ l] (post (.tup [row (ofL 5 l), .int .i64 (.sym (ofE 5 l))])) := by
  rw [vc_Of5]
  simp only [true_and, and_true, eq_self, implies_true]
  refine Exists.intro (l, 5) ⟨⟨⟨rfl, rfl⟩, rfl⟩, hl, fun h => ?_, fun h => ⟨SameCode.refl _, Exists.intro ((5, l), 0) ⟨⟨by show (1 : Int) ≤ 5; decide, by show (5 : Int) ≤ 16; decide, Classical.not_not.1 h, Nat.zero_le _, hl⟩, ⟨⟨rfl, ⟨rfl, rfl⟩, rfl, rfl⟩, rokB, by exact ⟨rfl, trivial⟩⟩, fun o ho => ?_⟩⟩⟩
  · have hn : ¬ (sizeB 5 = true ∧ InR 5 l) := fun q => h q.2
    rw [ofL_out hn, ofE_out hn]
    exact ⟨⟨rfl, ROK_eB'⟩, rfl⟩
  · have hi : InR 5 l := Classical.not_not.1 h
    have ho : o = (5, l) := ho
    subst ho
    rw [ofL_in (by decide) hi, ofE_in (by decide) hi]
    exact ⟨by rw [ofP_length]; exact Nat.le_refl _, ⟨(ofP_length _ _).symm, row_take _ _⟩, rfl⟩
theorem of6_all (l : List Int) (hl : l.length ≤ 10000) : scallI sx24 Try.prog cfO (sexec sx24 Try.prog cfO 1000) 24 0 [.int .i64 (.lit 6), rowJ l] (post (.tup [row (ofL 6 l), .int .i64 (.sym (ofE 6 l))])) := by
  rw [vc_Of6]
  simp only [true_and, and_true, eq_self, implies_true]
  refine Exists.intro (l, 6) ⟨⟨⟨rfl, rfl⟩, rfl⟩, hl, fun h => ?_, fun h => ⟨SameCode.refl _, Exists.intro ((6, l), 0) ⟨⟨by show (1 : Int) ≤ 6; decide, by show (6 : Int) ≤ 16; decide, Classical.not_not.1 h, Nat.zero_le _, hl⟩, ⟨⟨rfl, ⟨rfl, rfl⟩, rfl, rfl⟩, rokB, by exact ⟨rfl, trivial⟩⟩, fun o ho => ?_⟩⟩⟩
  · have hn : ¬ (sizeB 6 = true ∧ InR 6 l) := fun q => h q.2
    rw [ofL_out hn, ofE_out hn]
    exact ⟨⟨rfl, ROK_eB'⟩, rfl⟩
  · have hi : InR 6 l := Classical.not_not.1 h
    have ho : o = (6, l) := ho
    subst ho
    rw [ofL_in (by decide) hi, ofE_in (by decide) hi]
    exact ⟨by rw [ofP_length]; exact Nat.le_refl _, ⟨(ofP_length _ _).symm, row_take _ _⟩, rfl⟩
theorem of7_all (l : List Int) (hl : l.length ≤ 10000) : scallI sx24 Try.prog cfO (sexec sx24 Try.prog cfO 1000) 24 0 [.int .i64 (.lit 7), rowJ l] (post (.tup [row (ofL 7 l), .int .i64 (.sym (ofE 7 l))])) := by
  rw [vc_Of7]
  simp only [true_and, and_true, eq_self, implies_true]
  refine Exists.intro (l, 7) ⟨⟨⟨rfl, rfl⟩, rfl⟩, hl, fun h => ?_, fun h => ⟨SameCode.refl _, Exists.intro ((7, l), 0) ⟨⟨by show (1 : Int) ≤ 7; decide, by show (7 : Int) ≤ 16; decide, Classical.not_not.1 h, Nat.zero_le _, hl⟩, ⟨⟨rfl, ⟨rfl, rfl⟩, rfl, rfl⟩, rokB, by exact ⟨rfl, trivial⟩⟩, fun o ho => ?_⟩⟩⟩
  · have hn : ¬ (sizeB 7 = true ∧ InR 7 l) := fun q => h q.2
    rw [ofL_out hn, ofE_out hn]
    exact ⟨⟨rfl, ROK_eB'⟩, rfl⟩
  · have hi : InR 7 l := Classical.not_not.1 h
    have ho : o = (7, l) := ho
    subst ho
    rw [ofL_in (by decide) hi, ofE_in (by decide) hi]
    exact ⟨by rw [ofP_length]; exact Nat.le_refl _, ⟨(ofP_length _ _).symm, row_take _ _⟩, rfl⟩
theorem of8_all (l : List Int) (hl : l.length ≤ 10000) : scallI sx24 Try.prog cfO (sexec sx24 Try.prog cfO 1000) 24 0 [.int .i64 (.lit 8), rowJ l] (post (.tup [row (ofL 8 l), .int .i64 (.sym (ofE 8 l))])) := by
  rw [vc_Of8]
  simp only [true_and, and_true, eq_self, implies_true]
  refine Exists.intro (l, 8) ⟨⟨⟨rfl, rfl⟩, rfl⟩, hl, fun h => ?_, fun h => ⟨SameCode.refl _, Exists.intro ((8, l), 0) ⟨⟨by show (1 : Int) ≤ 8; decide, by show (8 : Int) ≤ 16; decide, Classical.not_not.1 h, Nat.zero_le _, hl⟩, ⟨⟨rfl, ⟨rfl, rfl⟩, rfl, rfl⟩, rokB, by exact ⟨rfl, trivial⟩⟩, fun o ho => ?_⟩⟩⟩
  · have hn : ¬ (sizeB 8 = true ∧ InR 8 l) := fun q => h q.2
    rw [ofL_out hn, ofE_out hn]
    exact ⟨⟨rfl, ROK_eB'⟩, rfl⟩
  · have hi : InR 8 l := Classical.not_not.1 h
    have ho : o = (8, l) := ho
    subst ho
    rw [ofL_in (by decide) hi, ofE_in (by decide) hi]
    exact ⟨by rw [ofP_length]; exact Nat.le_refl _, ⟨(ofP_length _ _).symm, row_take _ _⟩, rfl⟩
theorem of9_all (l : List Int) (hl : l.length ≤ 10000) : scallI sx24 Try.prog cfO (sexec sx24 Try.prog cfO 1000) 24 0 [.int .i64 (.lit 9), rowJ l] (post (.tup [row (ofL 9 l), .int .i64 (.sym (ofE 9 l))])) := by
  rw [vc_Of9]
  simp only [true_and, and_true, eq_self, implies_true]
  refine Exists.intro (l, 9) ⟨⟨⟨rfl, rfl⟩, rfl⟩, hl, fun h => ?_, fun h => ⟨SameCode.refl _, Exists.intro ((9, l), 0) ⟨⟨by show (1 : Int) ≤ 9; decide, by show (9 : Int) ≤ 16; decide, Classical.not_not.1 h, Nat.zero_le _, hl⟩, ⟨⟨rfl, ⟨rfl, rfl⟩, rfl, rfl⟩, rokB, by exact ⟨rfl, rfl, trivial⟩⟩, fun o ho => ?_⟩⟩⟩
  · have hn : ¬ (sizeB 9 = true ∧ InR 9 l) := fun q => h q.2
    rw [ofL_out hn, ofE_out hn]
    exact ⟨⟨rfl, ROK_eB'⟩, rfl⟩
  · have hi : InR 9 l := Classical.not_not.1 h
    have ho : o = (9, l) := ho
    subst ho
    rw [ofL_in (by decide) hi, ofE_in (by decide) hi]
    exact ⟨by rw [ofP_length]; exact Nat.le_refl _, ⟨(ofP_length _ _).symm, row_take _ _⟩, rfl⟩
theorem of10_all (l : List Int) (hl : l.length ≤ 10000) : scallI sx24 Try.prog cfO (sexec sx24 Try.prog cfO 1000) 24 0 [.int .i64 (.lit 10), rowJ l] (post (.tup [row (ofL 10 l), .int .i64 (.sym (ofE 10 l))])) := by
  rw [vc_Of10]
  simp only [true_and, and_true, eq_self, implies_true]
  refine Exists.intro (l, 10) ⟨⟨⟨rfl, rfl⟩, rfl⟩, hl, fun h => ?_, fun h => ⟨SameCode.refl _, Exists.intro ((10, l), 0) ⟨⟨by show (1 : Int) ≤ 10; decide, by show (10 : Int) ≤ 16; decide, Classical.not_not.1 h, Nat.zero_le _, hl⟩, ⟨⟨rfl, ⟨rfl, rfl⟩, rfl, rfl⟩, rokB, by exact ⟨rfl, rfl, trivial⟩⟩, fun o ho => ?_⟩⟩⟩
  · have hn : ¬ (sizeB 10 = true ∧ InR 10 l) := fun q => h q.2
    rw [ofL_out hn, ofE_out hn]
    exact ⟨⟨rfl, ROK_eB'⟩, rfl⟩
  · have hi : InR 10 l := Classical.not_not.1 h
    have ho : o = (10, l) := ho
    subst ho
    rw [ofL_in (by decide) hi, ofE_in (by decide) hi]
    exact ⟨by rw [ofP_length]; exact Nat.le_refl _, ⟨(ofP_length _ _).symm, row_take _ _⟩, rfl⟩
theorem of11_all (l : List Int) (hl : l.length ≤ 10000) : scallI sx24 Try.prog cfO (sexec sx24 Try.prog cfO 1000) 24 0 [.int .i64 (.lit 11), rowJ l] (post (.tup [row (ofL 11 l), .int .i64 (.sym (ofE 11 l))])) := by
  rw [vc_Of11]
  simp only [true_and, and_true, eq_self, implies_true]
  refine Exists.intro (l, 11) ⟨⟨⟨rfl, rfl⟩, rfl⟩, hl, fun h => ?_, fun h => ⟨SameCode.refl _, Exists.intro ((11, l), 0) ⟨⟨by show (1 : Int) ≤ 11; decide, by show (11 : Int) ≤ 16; decide, Classical.not_not.1 h, Nat.zero_le _, hl⟩, ⟨⟨rfl, ⟨rfl, rfl⟩, rfl, rfl⟩, rokB, by exact ⟨rfl, rfl, trivial⟩⟩, fun o ho => ?_⟩⟩⟩
  · have hn : ¬ (sizeB 11 = true ∧ InR 11 l) := fun q => h q.2
    rw [ofL_out hn, ofE_out hn]
    exact ⟨⟨rfl, ROK_eB'⟩, rfl⟩
  · have hi : InR 11 l := Classical.not_not.1 h
    have ho : o = (11, l) := ho
    subst ho
    rw [ofL_in (by decide) hi, ofE_in (by decide) hi]
    exact ⟨by rw [ofP_length]; exact Nat.le_refl _, ⟨(ofP_length _ _).symm, row_take _ _⟩, rfl⟩
theorem of12_all (l : List Int) (hl : l.length ≤ 10000) : scallI sx24 Try.prog cfO (sexec sx24 Try.prog cfO 1000) 24 0 [.int .i64 (.lit 12), rowJ l] (post (.tup [row (ofL 12 l), .int .i64 (.sym (ofE 12 l))])) := by
  rw [vc_Of12]
  simp only [true_and, and_true, eq_self, implies_true]
  refine Exists.intro (l, 12) ⟨⟨⟨rfl, rfl⟩, rfl⟩, hl, fun h => ?_, fun h => ⟨SameCode.refl _, Exists.intro ((12, l), 0) ⟨⟨by show (1 : Int) ≤ 12; decide, by show (12 : Int) ≤ 16; decide, Classical.not_not.1 h, Nat.zero_le _, hl⟩, ⟨⟨rfl, ⟨rfl, rfl⟩, rfl, rfl⟩, rokB, by exact ⟨rfl, rfl, trivial⟩⟩, fun o ho => ?_⟩⟩⟩
  · have hn : ¬ (sizeB 12 = true ∧ InR 12 l) := fun q => h q.2
    rw [ofL_out hn, ofE_out hn]
    exact ⟨⟨rfl, ROK_eB'⟩, rfl⟩
  · have hi : InR 12 l := Classical.not_not.1 h
    have ho : o = (12, l) := ho
    subst ho
    rw [ofL_in (by decide) hi, ofE_in (by decide) hi]
    exact ⟨by rw [ofP_length]; exact Nat.le_refl _, ⟨(ofP_length _ _).symm, row_take _ _⟩, rfl⟩
theorem of13_all (l : List Int) (hl : l.length ≤ 10000) : scallI sx24 Try.prog cfO (sexec sx24 Try.prog cfO 1000) 24 0 [.int .i64 (.lit 13), rowJ l] (post (.tup [row (ofL 13 l), .int .i64 (.sym (ofE 13 l))])) := by
  rw [vc_Of13]
  simp only [true_and, and_true, eq_self, implies_true]
  refine Exists.intro (l, 13) ⟨⟨⟨rfl, rfl⟩, rfl⟩, hl, fun h => ?_, fun h => ⟨SameCode.refl _, Exists.intro ((13, l), 0) ⟨⟨by show (1 : Int) ≤ 13; decide, by show (13 : Int) ≤ 16; decide, Classical.not_not.1 h, Nat.zero_le _, hl⟩, ⟨⟨rfl, ⟨rfl, rfl⟩, rfl, rfl⟩, rokB, by exact ⟨rfl, rfl, trivial⟩⟩, fun o ho => ?_⟩⟩⟩
  · have hn : ¬ (sizeB 13 = true ∧ InR 13 l) := fun q => h q.2
    rw [ofL_out hn, ofE_out hn]
    exact ⟨⟨rfl, ROK_eB'⟩, rfl⟩
  · have hi : InR 13 l := Classical.not_not.1 h
    have ho : o = (13, l) := ho
    subst ho
    rw [ofL_in (by decide) hi, ofE_in (by decide) hi]
    exact ⟨by rw [ofP_length]; exact Nat.le_refl _, ⟨(ofP_length _ _).symm, row_take _ _⟩, rfl⟩
theorem of14_all (l : List Int) (hl : l.length ≤ 10000) : scallI sx24 Try.prog cfO (sexec sx24 Try.prog cfO 1000) 24 0 [.int .i64 (.lit 14), rowJ l] (post (.tup [row (ofL 14 l), .int .i64 (.sym (ofE 14 l))])) := by
  rw [vc_Of14]
  simp only [true_and, and_true, eq_self, implies_true]
  refine Exists.intro (l, 14) ⟨⟨⟨rfl, rfl⟩, rfl⟩, hl, fun h => ?_, fun h => ⟨SameCode.refl _, Exists.intro ((14, l), 0) ⟨⟨by show (1 : Int) ≤ 14; decide, by show (14 : Int) ≤ 16; decide, Classical.not_not.1 h, Nat.zero_le _, hl⟩, ⟨⟨rfl, ⟨rfl, rfl⟩, rfl, rfl⟩, rokB, by exact ⟨rfl, rfl, trivial⟩⟩, fun o ho => ?_⟩⟩⟩
  · have hn : ¬ (sizeB 14 = true ∧ InR 14 l) := fun q => h q.2
    rw [ofL_out hn, ofE_out hn]
    exact ⟨⟨rfl, ROK_eB'⟩, rfl⟩
  · have hi : InR 14 l := Classical.not_not.1 h
    have ho : o = (14, l) := ho
    subst ho
    rw [ofL_in (by decide) hi, ofE_in (by decide) hi]
    exact ⟨by rw [ofP_length]; exact Nat.le_refl _, ⟨(ofP_length _ _).symm, row_take _ _⟩, rfl⟩
theorem of15_all (l : List Int) (hl : l.length ≤ 10000) : scallI sx24 Try.prog cfO (sexec sx24 Try.prog cfO 1000) 24 0 [.int .i64 (.lit 15), rowJ l] (post (.tup [row (ofL 15 l), .int .i64 (.sym (ofE 15 l))])) := by
  rw [vc_Of15]
  simp only [true_and, and_true, eq_self, implies_true]
  refine Exists.intro (l, 15) ⟨⟨⟨rfl, rfl⟩, rfl⟩, hl, fun h => ?_, fun h => ⟨SameCode.refl _, Exists.intro ((15, l), 0) ⟨⟨by show (1 : Int) ≤ 15; decide, by show (15 : Int) ≤ 16; decide, Classical.not_not.1 h, Nat.zero_le _, hl⟩, ⟨⟨rfl, ⟨rfl, rfl⟩, rfl, rfl⟩, rokB, by exact ⟨rfl, rfl, trivial⟩⟩, fun o ho => ?_⟩⟩⟩
  · have hn : ¬ (sizeB 15 = true ∧ InR 15 l) := fun q => h q.2
    rw [ofL_out hn, ofE_out hn]
    exact ⟨⟨rfl, ROK_eB'⟩, rfl⟩
  · have hi : InR 15 l := Classical.not_not.1 h
    have ho : o = (15, l) := ho
    subst ho
    rw [ofL_in (by decide) hi, ofE_in (by decide) hi]
    exact ⟨by rw [ofP_length]; exact Nat.le_refl _, ⟨(ofP_length _ _).symm, row_take _ _⟩, rfl⟩
theorem of16_all (l : List Int) (hl : l.length ≤ 10000) : scallI sx24 Try.prog cfO (sexec sx24 Try.prog cfO 1000) 24 0 [.int .i64 (.lit 16), rowJ l] (post (.tup [row (ofL 16 l), .int .i64 (.sym (ofE 16 l))])) := by
  rw [vc_Of16]
  simp only [true_and, and_true, eq_self, implies_true]
  refine Exists.intro (l, 16) ⟨⟨⟨rfl, rfl⟩, rfl⟩, hl, fun h => ?_, fun h => ⟨SameCode.refl _, Exists.intro ((16, l), 0) ⟨⟨by show (1 : Int) ≤ 16; decide, by show (16 : Int) ≤ 16; decide, Classical.not_not.1 h, Nat.zero_le _, hl⟩, ⟨⟨rfl, ⟨rfl, rfl⟩, rfl, rfl⟩, rokB, by exact ⟨rfl, rfl, trivial⟩⟩, fun o ho => ?_⟩⟩⟩
  · have hn : ¬ (sizeB 16 = true ∧ InR 16 l) := fun q => h q.2
    rw [ofL_out hn, ofE_out hn]
    exact ⟨⟨rfl, ROK_eB'⟩, rfl⟩
  · have hi : InR 16 l := Classical.not_not.1 h
    have ho : o = (16, l) := ho
    subst ho
    rw [ofL_in (by decide) hi, ofE_in (by decide) hi]
    exact ⟨by rw [ofP_length]; exact Nat.le_refl _, ⟨(ofP_length _ _).symm, row_take _ _⟩, rfl⟩
theorem sizeO_ok : CtOK Try.prog cfO 45 ctSize := ct_vc (m := 1000) sxO0_ok fun n _ => by
  rw [vc_sizeO]; unfold sizeB; constructor <;> intro h <;> simp [h]
theorem stk_ct {P : Program} {cf : Cfg} {f k : Nat} : CtOK P cf f (fun _ _ _ _ => Stuck k) := fun _ _ _ h => by cases h
theorem sx24e_ok : SXOK Try.prog cfO sx24e := sxok_lp (all_cons sizeO_ok (all_cons stk_ct (all_cons stk_ct all_nil))) (all_cons stk_lp all_nil)
theorem ofE_all (n : Int) (l : List Int) (hs : ¬ sizeB n = true) : scallI sx24e Try.prog cfO (sexec sx24e Try.prog cfO 1000) 24 0 [.int .i64 (.sym n), rowJ l] (post (.tup [row (ofL n l), .int .i64 (.sym (ofE n l))])) := by
  have hn : ¬ (sizeB n = true ∧ InR n l) := fun q => hs q.1
  rw [vc_OfE, ofL_out hn, ofE_out hn]
  exact Exists.intro n ⟨⟨rfl, trivial⟩, trivial, fun _ => ⟨⟨rfl, rokB⟩, rfl, trivial⟩, fun q => absurd hs q⟩
theorem of_all (n : Int) (l : List Int) (hl : l.length ≤ 10000) (h1 : 1 ≤ n) (h2 : n ≤ 16) : ∃ as', sles [.int .i64 (.sym n), rowJ l] as' ∧ scallI sx24 Try.prog cfO (sexec sx24 Try.prog cfO 1000) 24 0 as' (post (.tup [row (ofL n l), .int .i64 (.sym (ofE n l))])) := by
  refine ⟨[.int .i64 (.lit n), rowJ l], ⟨rfl, ⟨rfl, rfl⟩, trivial⟩, ?_⟩
  have : n = 1 ∨ n = 2 ∨ n = 3 ∨ n = 4 ∨ n = 5 ∨ n = 6 ∨ n = 7 ∨ n = 8 ∨ n = 9 ∨ n = 10 ∨ n = 11 ∨ n = 12 ∨ n = 13 ∨ n = 14 ∨ n = 15 ∨ n = 16 := by omega
  rcases this with rfl | rfl | rfl | rfl | rfl | rfl | rfl | rfl | rfl | rfl | rfl | rfl | rfl | rfl | rfl | rfl
  · exact of1_all l hl
  · exact of2_all l hl
  · exact of3_all l hl
  · exact of4_all l hl
  · exact of5_all l hl
  · exact of6_all l hl
  · exact of7_all l hl
  · exact of8_all l hl
  · exact of9_all l hl
  · exact of10_all l hl
  · exact of11_all l hl
  · exact of12_all l hl
  · exact of13_all l hl
  · exact of14_all l hl
  · exact of15_all l hl
  · exact of16_all l hl
theorem of_ok : CtOK Try.prog cfO 24 ctOfL := by
  refine ct_any (m := 1000) fun a h => ?_
  obtain ⟨n, l⟩ := a
  have hl : l.length ≤ 10000 := h
  by_cases hs : sizeB n = true
  · obtain ⟨h1, h2⟩ := sizeB_iff.1 hs
    obtain ⟨as', g1, g2⟩ := of_all n l hl h1 h2
    exact ⟨sx24, as', sx24_ok, g1, g2⟩
  · exact ⟨sx24e, [.int .i64 (.sym n), rowJ l], sx24e_ok, ⟨rfl, ⟨rfl, rfl⟩, trivial⟩, ofE_all n l hs⟩

end
end Go.Proofs.Ytifgifhbefhkmaa.VM
/- Sets of tracks, bit by bit. No conditions. -/
namespace Go.Proofs.Ytifgifhbefhkmaa.VM
open Go Go.RowKit
set_option linter.unusedVariables false
set_option linter.unusedSimpArgs false
set_option maxRecDepth 100000
noncomputable section
def byteN (s : List Int) (j : Nat) : Nat := (s.getD j 0).toNat
theorem getD_by {s : List Int} (hb : By s) (j : Nat) : 0 ≤ s.getD j 0 ∧ s.getD j 0 < 256 := by
  rw [List.getD_eq_getElem?_getD]
  cases h : s[j]? with
  | none => exact ⟨by decide, by decide⟩
  | some x => exact hb x (List.mem_of_getElem? h)
theorem byteN_lt {s : List Int} (hb : By s) (j : Nat) : byteN s j < 256 := by
  have := getD_by hb j
  unfold byteN; omega
theorem byteN_cast {s : List Int} (hb : By s) (j : Nat) : s.getD j 0 = (byteN s j : Int) := by
  have := getD_by hb j
  unfold byteN; omega
theorem inB_bit {s : List Int} (hb : By s) (k : Nat) : inB s (k : Int) = (byteN s (k / 8)).testBit (k % 8) := by
  rw [inBk, byteN_cast hb, Nat.testBit_eq_decide_div_mod_eq]
  generalize byteN s (k / 8) = m
  have e : (m : Int) / 2 ^ (k % 8) % 2 = ((m / 2 ^ (k % 8) % 2 : Nat) : Int) := by
    rw [show (2 : Int) ^ (k % 8) = ((2 ^ (k % 8) : Nat) : Int) from (Int.natCast_pow 2 _).symm]; rfl
  rw [e]
  congr 1
  apply propext
  omega
theorem bit_high {s : List Int} (hb : By s) (j k : Nat) (hk : 8 ≤ k) : (byteN s j).testBit k = false := by
  refine Nat.testBit_lt_two_pow ?_
  have := byteN_lt hb j
  exact Nat.lt_of_lt_of_le this (by rw [show 256 = 2 ^ 8 from rfl]; exact Nat.pow_le_pow_right (by decide) hk)
/-- Sets of one size with the same tracks are the same. -/
theorem set_ext {s u : List Int} (hs : By s) (hu : By u) (hl : s.length = u.length) (h : ∀ k : Nat, k < 8 * s.length → inB s (k : Int) = inB u (k : Int)) : s = u := by
  apply List.ext_getElem?
  intro j
  by_cases hj : j < s.length
  · have e : byteN s j = byteN u j := by
      apply Nat.eq_of_testBit_eq
      intro k
      by_cases hk : k < 8
      · have := h (8 * j + k) (by omega)
        rw [inB_bit hs, inB_bit hu, show (8 * j + k) / 8 = j by omega, show (8 * j + k) % 8 = k by omega] at this
        exact this
      · rw [bit_high hs j k (by omega), bit_high hu j k (by omega)]
    have e2 : s.getD j 0 = u.getD j 0 := by rw [byteN_cast hs, byteN_cast hu, e]
    rw [List.getD_eq_getElem?_getD, List.getD_eq_getElem?_getD, List.getElem?_eq_getElem hj, List.getElem?_eq_getElem (by omega)] at e2
    rw [List.getElem?_eq_getElem hj, List.getElem?_eq_getElem (by omega)]
    exact congrArg some e2
  · rw [List.getElem?_eq_none (by omega), List.getElem?_eq_none (by omega)]
theorem andN_u8 (a b : Int) : 0 ≤ andN a b ∧ andN a b < 256 := by
  unfold andN
  have : ∀ x : Int, IntKind.u8.wrap x = x % 256 := fun x => by simp [IntKind.wrap, IntKind.bits, IntKind.signed]
  rw [this]; omega
theorem By_zip {g : Int → Int → Int} (hg : ∀ a b, 0 ≤ g a b ∧ g a b < 256) : ∀ (s u : List Int), By (List.zipWith g s u)
  | [], _ => fun x hx => by simp at hx
  | _ :: _, [] => fun x hx => by simp at hx
  | a :: s, b :: u => fun x hx => by
    rw [List.zipWith_cons_cons] at hx
    rcases List.mem_cons.1 hx with rfl | hx
    · exact hg a b
    · exact By_zip hg s u x hx
theorem zip_getD {g : Int → Int → Int} {s u : List Int} {j : Nat} (h1 : j < s.length) (h2 : j < u.length) : (List.zipWith g s u).getD j 0 = g (s.getD j 0) (u.getD j 0) := by
  simp only [List.getD_eq_getElem?_getD, List.getElem?_zipWith, List.getElem?_eq_getElem h1, List.getElem?_eq_getElem h2]; rfl
theorem or_bit {s u : List Int} (hs : By s) (hu : By u) (hl : s.length = u.length) {k : Nat} (hk : k < 8 * s.length) : inB (List.zipWith orN s u) (k : Int) = (inB s (k : Int) || inB u (k : Int)) := by
  rw [inB_bit (By_zip orN_u8 s u), inB_bit hs, inB_bit hu]
  have e : byteN (List.zipWith orN s u) (k / 8) = byteN s (k / 8) ||| byteN u (k / 8) := by
    unfold byteN
    rw [zip_getD (by omega) (by omega), byteN_cast hs, byteN_cast hu, (orN_nat _ _ (byteN_lt hs _) (byteN_lt hu _)).1]; rfl
  rw [e, Nat.testBit_or]
theorem and_bit {s u : List Int} (hs : By s) (hu : By u) (hl : s.length = u.length) {k : Nat} (hk : k < 8 * s.length) : inB (List.zipWith andN s u) (k : Int) = (inB s (k : Int) && !inB u (k : Int)) := by
  rw [inB_bit (By_zip andN_u8 s u), inB_bit hs, inB_bit hu]
  obtain ⟨w, e, hw, hb⟩ := andN_nat (byteN s (k / 8)) (byteN u (k / 8)) (byteN_lt hs _)
  have e2 : byteN (List.zipWith andN s u) (k / 8) = w := by
    unfold byteN
    rw [zip_getD (by omega) (by omega), byteN_cast hs, byteN_cast hu, e]; rfl
  rw [e2]
  exact hb _ (Nat.mod_lt _ (by decide))
theorem may_iff' {n : Int} {s : List Int} : mayB n s = true ↔ sizeB n = true ∧ s.length = pages n ∧ ∀ k : Nat, k < 8 * s.length → (k : Int) < n ∨ inB s (k : Int) = false := by
  unfold mayB
  simp only [Bool.and_eq_true, decide_eq_true_eq, List.all_eq_true, List.mem_range, Bool.or_eq_true, Bool.not_eq_true', and_assoc]
theorem chk_iff {n : Int} {s : List Int} : chkR n s = 0 ↔ mayB n s = true := by
  constructor
  · intro h; exact (chkR_zero h).2
  · intro h
    have hs := (may_iff'.1 h).1
    unfold chkR; rw [if_pos hs, if_pos h]
theorem chk_or {n : Int} {s u : List Int} (hs : By s) (hu : By u) (h : chkR n s = 0) (g : chkR n u = 0) : chkR n (List.zipWith orN s u) = 0 := by
  obtain ⟨h1, h2, h3⟩ := may_iff'.1 (chk_iff.1 h)
  obtain ⟨g1, g2, g3⟩ := may_iff'.1 (chk_iff.1 g)
  have hl : (List.zipWith orN s u).length = s.length := by rw [List.length_zipWith]; omega
  refine chk_iff.2 (may_iff'.2 ⟨h1, by rw [hl, h2], fun k hk => ?_⟩)
  rw [hl] at hk
  rw [or_bit hs hu (by omega) hk]
  rcases h3 k hk with q | q
  · exact .inl q
  · rcases g3 k (by omega) with q2 | q2
    · exact .inl q2
    · exact .inr (by rw [q, q2]; rfl)
theorem chk_and {n : Int} {s u : List Int} (hs : By s) (hu : By u) (h : chkR n s = 0) (g : chkR n u = 0) : chkR n (List.zipWith andN s u) = 0 := by
  obtain ⟨h1, h2, h3⟩ := may_iff'.1 (chk_iff.1 h)
  obtain ⟨g1, g2, g3⟩ := may_iff'.1 (chk_iff.1 g)
  have hl : (List.zipWith andN s u).length = s.length := by rw [List.length_zipWith]; omega
  refine chk_iff.2 (may_iff'.2 ⟨h1, by rw [hl, h2], fun k hk => ?_⟩)
  rw [hl] at hk
  rw [and_bit hs hu (by omega) hk]
  rcases h3 k hk with q | q
  · exact .inl q
  · exact .inr (by rw [q]; rfl)
theorem countP_or (P Q : Nat → Bool) : ∀ l : List Nat, l.countP (fun k => P k || Q k) = l.countP (fun k => P k && !Q k) + l.countP Q
  | [] => rfl
  | k :: l => by
    simp only [List.countP_cons, countP_or P Q l]
    cases P k <;> cases Q k <;> simp <;> omega
theorem countP_congr' {P Q : Nat → Bool} : ∀ {l : List Nat}, (∀ k ∈ l, P k = Q k) → l.countP P = l.countP Q
  | [], _ => rfl
  | k :: l, h => by rw [List.countP_cons, List.countP_cons, h k (by simp), countP_congr' fun k hk => h k (by simp [hk])]
theorem trkN_count (s : List Int) (m : Nat) : (trkN s m).length = (List.range m).countP fun k : Nat => inB s (k : Int) := by
  unfold trkN
  rw [List.length_map, List.countP_eq_length_filter]
theorem count_or {n : Int} {s u : List Int} (hs : By s) (hu : By u) (h : chkR n s = 0) (g : chkR n u = 0) : countI n (List.zipWith orN s u) = countI n (List.zipWith andN s u) + countI n u := by
  obtain ⟨n1, n2, n3, _⟩ := chkR_good h
  obtain ⟨_, _, m3, _⟩ := chkR_good g
  obtain ⟨p1, p2, p3⟩ := pages_le n1 n2
  unfold countI listL
  rw [if_pos (chk_or hs hu h g), if_pos (chk_and hs hu h g), if_pos g, trkN_count, trkN_count, trkN_count]
  have e1 : (List.range n.toNat).countP (fun k : Nat => inB (List.zipWith orN s u) (k : Int)) = (List.range n.toNat).countP (fun k : Nat => inB s (k : Int) || inB u (k : Int)) := countP_congr' fun k hk => or_bit hs hu (by omega) (by have := List.mem_range.1 hk; omega)
  have e2 : (List.range n.toNat).countP (fun k : Nat => inB (List.zipWith andN s u) (k : Int)) = (List.range n.toNat).countP (fun k : Nat => inB s (k : Int) && !inB u (k : Int)) := countP_congr' fun k hk => and_bit hs hu (by omega) (by have := List.mem_range.1 hk; omega)
  rw [e1, e2, countP_or (fun k : Nat => inB s (k : Int)) (fun k : Nat => inB u (k : Int))]
  omega
/-! A list's set. -/
theorem By_set {s : List Int} (hs : By s) {i : Nat} {x : Int} (hx : 0 ≤ x ∧ x < 256) : By (s.set i x) := fun y hy => by
  rcases List.mem_or_eq_of_mem_set hy with h | rfl
  · exact hs y h
  · exact hx
theorem By_putT {s : List Int} (hs : By s) (t : Int) : By (putT s t) := By_set hs (orN_u8 _ _)
theorem bitI_nat (t : Nat) : bitI (t : Int) = ((2 ^ (t % 8) : Nat) : Int) := by
  unfold bitI; rw [Int.toNat_natCast]; exact (Int.natCast_pow 2 _).symm
theorem putT_bit {s : List Int} (hs : By s) {t k : Nat} (ht : t / 8 < s.length) : inB (putT s (t : Int)) (k : Int) = (inB s (k : Int) || decide (k = t)) := by
  rw [inB_bit (By_putT hs _), inB_bit hs]
  have h7 : t % 8 < 8 := Nat.mod_lt _ (by decide)
  have hp : 2 ^ (t % 8) < 256 := by
    have : t % 8 = 0 ∨ t % 8 = 1 ∨ t % 8 = 2 ∨ t % 8 = 3 ∨ t % 8 = 4 ∨ t % 8 = 5 ∨ t % 8 = 6 ∨ t % 8 = 7 := by omega
    rcases this with q | q | q | q | q | q | q | q <;> rw [q] <;> decide
  by_cases hj : k / 8 = t / 8
  · have e : byteN (putT s (t : Int)) (k / 8) = byteN s (k / 8) ||| 2 ^ (t % 8) := by
      have e0 : (putT s (t : Int)).getD (k / 8) 0 = orN (s.getD (k / 8) 0) (bitI t) := by
        unfold putT
        rw [Int.toNat_natCast, hj, List.getD_eq_getElem?_getD, List.getElem?_set_self ht]; rfl
      have e3 : byteN (putT s (t : Int)) (k / 8) = (orN (s.getD (k / 8) 0) (bitI t)).toNat := by unfold byteN; rw [e0]
      rw [e3, byteN_cast hs, bitI_nat, (orN_nat _ _ (byteN_lt hs _) hp).1]; rfl
    rw [e, Nat.testBit_or, Nat.testBit_two_pow]
    congr 1
    apply Bool.eq_iff_iff.2
    simp only [decide_eq_true_eq]
    omega
  · have e : byteN (putT s (t : Int)) (k / 8) = byteN s (k / 8) := by
      unfold byteN putT
      simp only [Int.toNat_natCast, List.getD_eq_getElem?_getD]
      rw [List.getElem?_set_ne (by omega)]
    rw [e]
    have : ¬ k = t := by rintro rfl; exact hj rfl
    simp [this]
theorem foldT_bit : ∀ (l : List Int) {s : List Int} (hs : By s) (hl : ∀ t ∈ l, 0 ≤ t ∧ t.toNat / 8 < s.length) (k : Nat), By (l.foldl putT s) ∧ inB (l.foldl putT s) (k : Int) = (inB s (k : Int) || decide ((k : Int) ∈ l))
  | [], s, hs, _, k => ⟨hs, by simp⟩
  | t :: l, s, hs, hl, k => by
    obtain ⟨h0, h1⟩ := hl t (by simp)
    obtain ⟨m, rfl⟩ : ∃ m : Nat, t = m := ⟨t.toNat, by omega⟩
    rw [Int.toNat_natCast] at h1
    obtain ⟨g1, g2⟩ := foldT_bit l (By_putT hs (m : Int)) (fun t ht => by rw [putT_length]; exact hl t (by simp [ht])) k
    refine ⟨g1, ?_⟩
    rw [List.foldl_cons, g2, putT_bit hs h1, Bool.or_assoc]
    congr 1
    apply Bool.eq_iff_iff.2
    simp only [Bool.or_eq_true, decide_eq_true_eq, List.mem_cons]
    constructor
    · rintro (rfl | h)
      · exact .inl rfl
      · exact .inr h
    · rintro (h | h)
      · exact .inl (by omega)
      · exact .inr h
theorem By_zero (m : Nat) : By (List.replicate m 0) := fun x hx => by
  rw [(List.mem_replicate.1 hx).2]; exact ⟨by decide, by decide⟩
theorem zero_bit (m k : Nat) : inB (List.replicate m 0) (k : Int) = false := by
  rw [inB_bit (By_zero m)]
  have : byteN (List.replicate m 0) (k / 8) = 0 := by
    unfold byteN
    rw [List.getD_eq_getElem?_getD, List.getElem?_replicate]
    split <;> rfl
  rw [this]; simp
theorem of_bit {n : Int} {l : List Int} (h1 : 1 ≤ n) (h2 : n ≤ 16) (g : InR n l) (k : Nat) : By (ofP n l) ∧ inB (ofP n l) (k : Int) = decide ((k : Int) ∈ l) := by
  obtain ⟨p1, p2, p3⟩ := pages_le h1 h2
  have := foldT_bit l (By_zero (pages n)) (fun t ht => by
    obtain ⟨q1, q2⟩ := g t ht
    rw [List.length_replicate]
    refine ⟨q1, ?_⟩
    omega) k
  refine ⟨this.1, ?_⟩
  show inB (l.foldl putT (List.replicate (pages n) 0)) (k : Int) = _
  rw [this.2, zero_bit]; simp
theorem chk_ofP {n : Int} {l : List Int} (hs : sizeB n = true) (g : InR n l) : chkR n (ofP n l) = 0 := by
  obtain ⟨h1, h2⟩ := sizeB_iff.1 hs
  refine chk_iff.2 (may_iff'.2 ⟨hs, ofP_length n l, fun k hk => ?_⟩)
  by_cases q : (k : Int) < n
  · exact .inl q
  · refine .inr ?_
    rw [(of_bit h1 h2 g k).2]
    simp only [decide_eq_false_iff_not]
    intro hm
    exact q (g _ hm).2
theorem mem_trkN {s : List Int} {m : Nat} {x : Int} : x ∈ trkN s m ↔ ∃ k : Nat, k < m ∧ inB s (k : Int) = true ∧ x = (k : Int) := by
  unfold trkN
  simp only [List.mem_map, List.mem_filter, List.mem_range]
  constructor
  · rintro ⟨k, ⟨h1, h2⟩, rfl⟩; exact ⟨k, h1, h2, rfl⟩
  · rintro ⟨k, h1, h2, rfl⟩; exact ⟨k, ⟨h1, h2⟩, rfl⟩
theorem trkN_rise {s : List Int} {m k : Nat} {x y : Int} (hx : (trkN s m)[k]? = some x) (hy : (trkN s m)[k + 1]? = some y) : x < y := by
  have hp : (trkN s m).Pairwise (· < ·) := by
    unfold trkN
    rw [List.pairwise_map]
    exact (List.Pairwise.filter _ List.pairwise_lt_range).imp fun h => by omega
  obtain ⟨h1, rfl⟩ := List.getElem?_eq_some_iff.1 hx
  obtain ⟨h2, rfl⟩ := List.getElem?_eq_some_iff.1 hy
  exact List.pairwise_iff_getElem.1 hp k (k + 1) h1 h2 (Nat.lt_succ_self k)
theorem list_in {n : Int} {s : List Int} (h : chkR n s = 0) : InR n (listL n s) := fun t ht => by
  obtain ⟨n1, n2, _, _⟩ := chkR_good h
  unfold listL at ht
  rw [if_pos h] at ht
  obtain ⟨k, h1, _, rfl⟩ := mem_trkN.1 ht
  omega
/-- A set's tracks make it. -/
theorem of_list {n : Int} {s : List Int} (hb : By s) (h : chkR n s = 0) : ofP n (listL n s) = s := by
  obtain ⟨n1, n2, n3, _⟩ := chkR_good h
  obtain ⟨_, _, h3⟩ := may_iff'.1 (chk_iff.1 h)
  refine set_ext (of_bit n1 n2 (list_in h) 0).1 hb (by rw [ofP_length, n3]) fun k hk => ?_
  rw [ofP_length] at hk
  rw [(of_bit n1 n2 (list_in h) k).2]
  apply Bool.eq_iff_iff.2
  rw [decide_eq_true_eq]
  unfold listL
  rw [if_pos h, mem_trkN]
  constructor
  · rintro ⟨j, h1, h2, h4⟩
    have : k = j := by omega
    subst this; exact h2
  · intro hq
    rcases h3 k (by omega) with q | q
    · exact ⟨k, by omega, hq, rfl⟩
    · rw [q] at hq; cases hq
theorem has_of {n : Int} {l : List Int} (hs : sizeB n = true) (g : InR n l) {t : Int} (ht : t ∈ l) : hasE n (ofP n l) t = 0 ∧ hasV n (ofP n l) t = true := by
  obtain ⟨h1, h2⟩ := sizeB_iff.1 hs
  obtain ⟨t0, t1⟩ := g t ht
  have e : hasE n (ofP n l) t = 0 := by unfold hasE; rw [if_pos (chk_ofP hs g), if_pos ⟨t0, t1⟩]
  refine ⟨e, ?_⟩
  obtain ⟨m, rfl⟩ : ∃ m : Nat, t = m := ⟨t.toNat, by omega⟩
  unfold hasV
  rw [e, (of_bit h1 h2 g m).2]
  simp [ht]
theorem list_of {n : Int} {l : List Int} (hs : sizeB n = true) (g : InR n l) {t : Int} (ht : t ∈ listL n (ofP n l)) : t ∈ l := by
  obtain ⟨h1, h2⟩ := sizeB_iff.1 hs
  unfold listL at ht
  rw [if_pos (chk_ofP hs g)] at ht
  obtain ⟨k, _, h4, rfl⟩ := mem_trkN.1 ht
  rw [(of_bit h1 h2 g k).2] at h4
  simpa using h4

end
end Go.Proofs.Ytifgifhbefhkmaa.VM
/- Sets of tracks: the examples, carried out. No conditions. -/
namespace Go.Proofs.Ytifgifhbefhkmaa.VM
open Go Go.RowKit
set_option linter.unusedVariables false
set_option linter.unusedSimpArgs false
set_option maxRecDepth 100000
noncomputable section
def cfX : Cfg := ⟨fun f => Nat.beq f 46, fun _ => false, fun _ => none⟩
def cfN : Cfg := ⟨fun f => Nat.beq f 25 || Nat.beq f 46 || Nat.beq f 30 || Nat.beq f 27, fun _ => false, fun f => bif Nat.beq f 36 then some collectG else bif Nat.beq f 20 then some (nextF cfX 200) else none⟩
theorem cfN_ok : ExtOK Try.prog cfN := by
  intro f g hf base vs rv blks h
  have hf : (bif Nat.beq f 36 then some collectG else bif Nat.beq f 20 then some (nextF cfX 200) else none) = some g := hf
  cases hq : Nat.beq f 36 with
  | true =>
    rw [hq] at hf
    have := Nat.eq_of_beq_eq_true hq
    subst this
    cases hf
    exact collect_iso h
  | false =>
    rw [hq] at hf
    cases hr : Nat.beq f 20 with
    | true =>
      rw [hr] at hf
      have := Nat.eq_of_beq_eq_true hr
      subst this
      cases hf
      exact next_iso extOK_none h
    | false => rw [hr] at hf; cases hf
theorem alive_val : vcall Try.prog cfN 200 23 0 [] = some (.bool true, []) := by kernel_rfl
theorem names_val : vcall Try.prog cfN 200 6 0 [] = some (.bool true, []) := by kernel_rfl

end
end Go.Proofs.Ytifgifhbefhkmaa.VM
/- Sets of tracks, two of them, and there and back: the laws, told. No conditions. -/
namespace Go.Proofs.Ytifgifhbefhkmaa.VM
open Go Go.RowKit
set_option linter.unusedVariables false
set_option linter.unusedSimpArgs false
set_option maxRecDepth 100000
noncomputable section
def fnM : List Nat := [14, 15, 16, 17, 18, 19, 21, 22]
def fnB : List Nat := [10, 12]
def cfM : Cfg := ⟨fun _ => false, fun _ => false, fun f => bif Nat.beq f 23 then some (memoG (.bool true)) else bif Nat.beq f 20 then some (liftG (nextF cf0)) else bif inL f fnM then some (liftG fun k base vs => vcall Try.prog cf0 k f base vs) else bif inL f fnB then some (liftG fun k base vs => vcall Try.prog cfB k f base vs) else bif Nat.beq f 24 then some (liftG fun k base vs => vcall Try.prog cfO k f base vs) else none⟩
def ctAlive : SCall := Ct (fun _ : Unit => []) (fun _ => True) (fun _ => .bool (.lit true))
def sxBoth : SX := ⟨rowK, ctOf [(23, ctAlive), (10, ctOrP), (12, ctMiP), (16, ctCount), (18, ctHas)], lpOf []⟩
/-- BitsBack: the list's tracks are there. -/
def LA : LInv where
  ι := (Int × List Int × List Int) × Nat
  G := fun a => (∀ t ∈ a.1.2.1, hasE a.1.1 a.1.2.2 t = 0 ∧ hasV a.1.1 a.1.2.2 t = true) ∧ By a.1.2.2 ∧ a.1.2.2.length ≤ 1000 ∧ a.2 ≤ a.1.2.1.length ∧ a.1.2.1.length ≤ 100
  μ := fun a => a.1.2.1.length - a.2
  I := fun a => ⟨stT 159 [(0, .int .i64 (.sym a.1.1)), (1, rowJ a.1.2.1), (12, row a.1.2.2), (16, .int .i64 (.sym (a.2 : Int))), (7, .bool (.lit true)), (14, rowJ (listL a.1.1 a.1.2.2)), (15, .int .i64 (.sym (chkR a.1.1 a.1.2.2)))], [], 0⟩
  Ω := Int × List Int × List Int
  e := 0
  PE := fun a o => o = a.1
  OE := fun o => ⟨stT 159 [(1, rowJ o.2.1), (7, .bool (.lit true)), (14, rowJ (listL o.1 o.2.2)), (15, .int .i64 (.sym (chkR o.1 o.2.2)))], [], 0⟩
  ret := false
  Ρ := Unit
  PR := fun _ _ => False
  OR := fun _ => ⟨[], [], 0⟩
/-- BitsBack: is it one of the list's? -/
def LC : LInv where
  ι := ((Int × List Int × List Int) × Nat) × Nat
  G := fun a => a.1.2 < a.1.1.2.2.length ∧ a.1.1.2.2.length ≤ 100 ∧ a.2 ≤ a.1.1.2.1.length ∧ a.1.1.2.1.length ≤ 100
  μ := fun a => a.1.1.2.1.length - a.2
  I := fun a => ⟨stT 159 [(1, rowJ a.1.1.2.1), (7, .bool (.lit true)), (14, rowJ a.1.1.2.2), (15, .int .i64 (.sym a.1.1.1)), (19, .int .i64 (.sym (a.1.2 : Int))), (20, .bool (.sym (∃ k : Nat, k < a.2 ∧ a.1.1.2.1[k]? = a.1.1.2.2[a.1.2]?))), (21, .int .i64 (.sym (a.2 : Int)))], [], 0⟩
  Ω := (Int × List Int × List Int) × Nat
  e := 4
  PE := fun a o => o = a.1
  OE := fun o => ⟨stT 159 [(1, rowJ o.1.2.1), (7, .bool (.lit true)), (14, rowJ o.1.2.2), (15, .int .i64 (.sym o.1.1)), (19, .int .i64 (.sym (o.2 : Int))), (20, .bool (.sym (∃ k : Nat, k < o.1.2.1.length ∧ o.1.2.1[k]? = o.1.2.2[o.2]?)))], [], 0⟩
  ret := false
  Ρ := Unit
  PR := fun _ _ => False
  OR := fun _ => ⟨[], [], 0⟩
/-- BitsBack: the set's tracks, rising. -/
def LB : LInv where
  ι := (Int × List Int × List Int) × Nat
  G := fun a => (∀ t ∈ a.1.2.2, t ∈ a.1.2.1) ∧ (∀ (k : Nat) x y, a.1.2.2[k]? = some x → a.1.2.2[k + 1]? = some y → x < y) ∧ a.2 ≤ a.1.2.2.length ∧ a.1.2.2.length ≤ 100 ∧ a.1.2.1.length ≤ 100
  μ := fun a => a.1.2.2.length - a.2
  I := fun a => ⟨stT 159 [(1, rowJ a.1.2.1), (7, .bool (.lit true)), (14, rowJ a.1.2.2), (15, .int .i64 (.sym a.1.1)), (19, .int .i64 (.sym (a.2 : Int)))], [], 0⟩
  Ω := Int
  e := 2
  PE := fun a o => o = a.1.1
  OE := fun o => ⟨stT 159 [(7, .bool (.lit true)), (15, .int .i64 (.sym o))], [], 0⟩
  ret := false
  Ρ := Unit
  PR := fun _ _ => False
  OR := fun _ => ⟨[], [], 0⟩
def sxA0 : SX := ⟨rowK, ctOf [(18, ctHas)], lpOf []⟩
def sxC0 : SX := ⟨rowK, ctOf [], lpOf []⟩
def sxB0 : SX := ⟨rowK, ctOf [], lpOf [(23, ⟨5, 2, LC.C 1000⟩)]⟩
def sxBack : SX := ⟨rowK, ctOf [(23, ctAlive), (24, ctOfL), (14, ctList), (18, ctHas)], lpOf [(13, ⟨5, 0, LA.C 1000⟩), (19, ⟨5, 1, LB.C 1000⟩)]⟩
theorem vc_Both (n : Int) (s u : List Int) (t : Int) : (scallI sxBoth Try.prog cfM (sexec sxBoth Try.prog cfM 1000) 7 0 [.int .i64 (.sym n), row s, row u, .int .i64 (.sym t)] (post (.bool (.lit true)))) = (∃ (y4 : Unit), True ∧ True ∧ ((100 : Int) < (↑(List.length s) : Int) → true = true) ∧ (¬(100 : Int) < (↑(List.length s) : Int) → ((100 : Int) < (↑(List.length u) : Int) → true = true) ∧ (¬(100 : Int)
< (↑(List.length u) : Int) → ∃ (y5 : Int × List Int × List Int), (n = Prod.fst y5 ∧ (List.length s = List.length (Prod.fst (Prod.snd y5)) ∧ SC.rows eB (1 : Nat) (1 : Nat) true s = SC.rows eB (1 : Nat)
(1 : Nat) true (Prod.fst (Prod.snd y5))) ∧ (List.length u = List.length (Prod.snd (Prod.snd y5)) ∧ SC.rows eB (1 : Nat) (1 : Nat) true u = SC.rows eB (1 : Nat) (1 : Nat) true (Prod.snd (Prod.snd y5)))
∧ True) ∧ ((∀ (y6 : Int), y6 ∈ Prod.fst (Prod.snd y5) → (0 : Int) ≤ y6 ∧ y6 < (256 : Int)) ∧ (∀ (y6 : Int), y6 ∈ Prod.snd (Prod.snd y5) → (0 : Int) ≤ y6 ∧ y6 < (256 : Int)) ∧ List.length (Prod.fst
(Prod.snd y5)) ≤ (1000 : Nat) ∧ List.length (Prod.snd (Prod.snd y5)) ≤ (1000 : Nat)) ∧ ∃ (y6 : Int × List Int × List Int), (n = Prod.fst y6 ∧ (List.length s = List.length (Prod.fst (Prod.snd y6)) ∧
SC.rows eB (1 : Nat) (1 : Nat) true s = SC.rows eB (1 : Nat) (1 : Nat) true (Prod.fst (Prod.snd y6))) ∧ (List.length u = List.length (Prod.snd (Prod.snd y6)) ∧ SC.rows eB (1 : Nat) (1 : Nat) true u =
SC.rows eB (1 : Nat) (1 : Nat) true (Prod.snd (Prod.snd y6))) ∧ True) ∧ ((∀ (y7 : Int), y7 ∈ Prod.fst (Prod.snd y6) → (0 : Int) ≤ y7 ∧ y7 < (256 : Int)) ∧ (∀ (y7 : Int), y7 ∈ Prod.snd (Prod.snd y6) →
(0 : Int) ≤ y7 ∧ y7 < (256 : Int)) ∧ List.length (Prod.fst (Prod.snd y6)) ≤ (1000 : Nat) ∧ List.length (Prod.snd (Prod.snd y6)) ≤ (1000 : Nat)) ∧ (¬firstE (Prod.fst y5) (Prod.fst (Prod.snd y5))
(Prod.snd (Prod.snd y5)) = (0 : Int) → (firstE (Prod.fst y5) (Prod.fst (Prod.snd y5)) (Prod.snd (Prod.snd y5)) = firstE (Prod.fst y6) (Prod.fst (Prod.snd y6)) (Prod.snd (Prod.snd y6)) →
((↑(List.length (orP (Prod.fst y5) (Prod.fst (Prod.snd y5)) (Prod.snd (Prod.snd y5)))) : Int) = (0 : Int) → ((↑(List.length (miP (Prod.fst y6) (Prod.fst (Prod.snd y6)) (Prod.snd (Prod.snd y6)))) :
Int) = (0 : Int) ↔ true = true)) ∧ (¬(↑(List.length (orP (Prod.fst y5) (Prod.fst (Prod.snd y5)) (Prod.snd (Prod.snd y5)))) : Int) = (0 : Int) → false = true)) ∧ (¬firstE (Prod.fst y5) (Prod.fst
(Prod.snd y5)) (Prod.snd (Prod.snd y5)) = firstE (Prod.fst y6) (Prod.fst (Prod.snd y6)) (Prod.snd (Prod.snd y6)) → false = true)) ∧ (¬¬firstE (Prod.fst y5) (Prod.fst (Prod.snd y5)) (Prod.snd (Prod.snd
y5)) = (0 : Int) → (¬firstE (Prod.fst y6) (Prod.fst (Prod.snd y6)) (Prod.snd (Prod.snd y6)) = (0 : Int) → (firstE (Prod.fst y5) (Prod.fst (Prod.snd y5)) (Prod.snd (Prod.snd y5)) = firstE (Prod.fst y6)
(Prod.fst (Prod.snd y6)) (Prod.snd (Prod.snd y6)) → ((↑(List.length (orP (Prod.fst y5) (Prod.fst (Prod.snd y5)) (Prod.snd (Prod.snd y5)))) : Int) = (0 : Int) → ((↑(List.length (miP (Prod.fst y6)
(Prod.fst (Prod.snd y6)) (Prod.snd (Prod.snd y6)))) : Int) = (0 : Int) ↔ true = true)) ∧ (¬(↑(List.length (orP (Prod.fst y5) (Prod.fst (Prod.snd y5)) (Prod.snd (Prod.snd y5)))) : Int) = (0 : Int) →
false = true)) ∧ (¬firstE (Prod.fst y5) (Prod.fst (Prod.snd y5)) (Prod.snd (Prod.snd y5)) = firstE (Prod.fst y6) (Prod.fst (Prod.snd y6)) (Prod.snd (Prod.snd y6)) → false = true)) ∧ (¬¬firstE
(Prod.fst y6) (Prod.fst (Prod.snd y6)) (Prod.snd (Prod.snd y6)) = (0 : Int) → ∃ (y7 : Int × List Int), (n = Prod.fst y7 ∧ (List.length (orP (Prod.fst y5) (Prod.fst (Prod.snd y5)) (Prod.snd (Prod.snd
y5))) = List.length (Prod.snd y7) ∧ SC.rows eB (1 : Nat) (1 : Nat) true (orP (Prod.fst y5) (Prod.fst (Prod.snd y5)) (Prod.snd (Prod.snd y5))) = SC.rows eB (1 : Nat) (1 : Nat) true (Prod.snd y7)) ∧
True) ∧ ((∀ (y8 : Int), y8 ∈ Prod.snd y7 → (0 : Int) ≤ y8 ∧ y8 < (256 : Int)) ∧ List.length (Prod.snd y7) ≤ (1000 : Nat)) ∧ ∃ (y8 : Int × List Int), (n = Prod.fst y8 ∧ (List.length (miP (Prod.fst y6)
(Prod.fst (Prod.snd y6)) (Prod.snd (Prod.snd y6))) = List.length (Prod.snd y8) ∧ SC.rows eB (1 : Nat) (1 : Nat) true (miP (Prod.fst y6) (Prod.fst (Prod.snd y6)) (Prod.snd (Prod.snd y6))) = SC.rows eB
(1 : Nat) (1 : Nat) true (Prod.snd y8)) ∧ True) ∧ ((∀ (y9 : Int), y9 ∈ Prod.snd y8 → (0 : Int) ≤ y9 ∧ y9 < (256 : Int)) ∧ List.length (Prod.snd y8) ≤ (1000 : Nat)) ∧ ∃ (y9 : Int × List Int), (n =
Prod.fst y9 ∧ (List.length u = List.length (Prod.snd y9) ∧ SC.rows eB (1 : Nat) (1 : Nat) true u = SC.rows eB (1 : Nat) (1 : Nat) true (Prod.snd y9)) ∧ True) ∧ ((∀ (y10 : Int), y10 ∈ Prod.snd y9 → (0
: Int) ≤ y10 ∧ y10 < (256 : Int)) ∧ List.length (Prod.snd y9) ≤ (1000 : Nat)) ∧ (¬chkR (Prod.fst y7) (Prod.snd y7) = (0 : Int) → false = true) ∧ (¬¬chkR (Prod.fst y7) (Prod.snd y7) = (0 : Int) →
(¬chkR (Prod.fst y8) (Prod.snd y8) = (0 : Int) → false = true) ∧ (¬¬chkR (Prod.fst y8) (Prod.snd y8) = (0 : Int) → (¬chkR (Prod.fst y9) (Prod.snd y9) = (0 : Int) → false = true) ∧ (¬¬chkR (Prod.fst
y9) (Prod.snd y9) = (0 : Int) → (¬countI (Prod.fst y7) (Prod.snd y7) = IntKind.wrap IntKind.i64 (countI (Prod.fst y8) (Prod.snd y8) + countI (Prod.fst y9) (Prod.snd y9)) → false = true) ∧ (¬¬countI
(Prod.fst y7) (Prod.snd y7) = IntKind.wrap IntKind.i64 (countI (Prod.fst y8) (Prod.snd y8) + countI (Prod.fst y9) (Prod.snd y9)) → ∃ (y10 : Int × List Int × Int), (n = Prod.fst y10 ∧ (List.length s =
List.length (Prod.fst (Prod.snd y10)) ∧ SC.rows eB (1 : Nat) (1 : Nat) true s = SC.rows eB (1 : Nat) (1 : Nat) true (Prod.fst (Prod.snd y10))) ∧ t = Prod.snd (Prod.snd y10) ∧ True) ∧ ((∀ (y11 : Int),
y11 ∈ Prod.fst (Prod.snd y10) → (0 : Int) ≤ y11 ∧ y11 < (256 : Int)) ∧ List.length (Prod.fst (Prod.snd y10)) ≤ (1000 : Nat)) ∧ ∃ (y11 : Int × List Int × Int), (n = Prod.fst y11 ∧ (List.length u =
List.length (Prod.fst (Prod.snd y11)) ∧ SC.rows eB (1 : Nat) (1 : Nat) true u = SC.rows eB (1 : Nat) (1 : Nat) true (Prod.fst (Prod.snd y11))) ∧ t = Prod.snd (Prod.snd y11) ∧ True) ∧ ((∀ (y12 : Int),
y12 ∈ Prod.fst (Prod.snd y11) → (0 : Int) ≤ y12 ∧ y12 < (256 : Int)) ∧ List.length (Prod.fst (Prod.snd y11)) ≤ (1000 : Nat)) ∧ ∃ (y12 : Int × List Int × Int), (n = Prod.fst y12 ∧ (List.length (orP
(Prod.fst y5) (Prod.fst (Prod.snd y5)) (Prod.snd (Prod.snd y5))) = List.length (Prod.fst (Prod.snd y12)) ∧ SC.rows eB (1 : Nat) (1 : Nat) true (orP (Prod.fst y5) (Prod.fst (Prod.snd y5)) (Prod.snd
(Prod.snd y5))) = SC.rows eB (1 : Nat) (1 : Nat) true (Prod.fst (Prod.snd y12))) ∧ t = Prod.snd (Prod.snd y12) ∧ True) ∧ ((∀ (y13 : Int), y13 ∈ Prod.fst (Prod.snd y12) → (0 : Int) ≤ y13 ∧ y13 < (256 :
Int)) ∧ List.length (Prod.fst (Prod.snd y12)) ≤ (1000 : Nat)) ∧ ∃ (y13 : Int × List Int × Int), (n = Prod.fst y13 ∧ (List.length (miP (Prod.fst y6) (Prod.fst (Prod.snd y6)) (Prod.snd (Prod.snd y6))) =
List.length (Prod.fst (Prod.snd y13)) ∧ SC.rows eB (1 : Nat) (1 : Nat) true (miP (Prod.fst y6) (Prod.fst (Prod.snd y6)) (Prod.snd (Prod.snd y6))) = SC.rows eB (1 : Nat) (1 : Nat) true (Prod.fst
(Prod.snd y13))) ∧ t = Prod.snd (Prod.snd y13) ∧ True) ∧ ((∀ (y14 : Int), y14 ∈ Prod.fst (Prod.snd y13) → (0 : Int) ≤ y14 ∧ y14 < (256 : Int)) ∧ List.length (Prod.fst (Prod.snd y13)) ≤ (1000 : Nat)) ∧
(hasE (Prod.fst y10) (Prod.fst (Prod.snd y10)) (Prod.snd (Prod.snd y10)) = hasE (Prod.fst y11) (Prod.fst (Prod.snd y11)) (Prod.snd (Prod.snd y11)) → (hasE (Prod.fst y11) (Prod.fst (Prod.snd y11))
(Prod.snd (Prod.snd y11)) = hasE (Prod.fst y12) (Prod.fst (Prod.snd y12)) (Prod.snd (Prod.snd y12)) → (hasE (Prod.fst y12) (Prod.fst (Prod.snd y12)) (Prod.snd (Prod.snd y12)) = hasE (Prod.fst y13)
(Prod.fst (Prod.snd y13)) (Prod.snd (Prod.snd y13)) → (¬hasE (Prod.fst y10) (Prod.fst (Prod.snd y10)) (Prod.snd (Prod.snd y10)) = (0 : Int) → true = true) ∧ (¬¬hasE (Prod.fst y10) (Prod.fst (Prod.snd
y10)) (Prod.snd (Prod.snd y10)) = (0 : Int) → (hasV (Prod.fst y10) (Prod.fst (Prod.snd y10)) (Prod.snd (Prod.snd y10)) = true → ((hasV (Prod.fst y12) (Prod.fst (Prod.snd y12)) (Prod.snd (Prod.snd
y12)) = true ↔ true = true) → (hasV (Prod.fst y10) (Prod.fst (Prod.snd y10)) (Prod.snd (Prod.snd y10)) = true → ((hasV (Prod.fst y13) (Prod.fst (Prod.snd y13)) (Prod.snd (Prod.snd y13)) = true ↔ ¬hasV
(Prod.fst y11) (Prod.fst (Prod.snd y11)) (Prod.snd (Prod.snd y11)) = true) ↔ true = true)) ∧ (¬hasV (Prod.fst y10) (Prod.fst (Prod.snd y10)) (Prod.snd (Prod.snd y10)) = true → ((hasV (Prod.fst y13)
(Prod.fst (Prod.snd y13)) (Prod.snd (Prod.snd y13)) = true ↔ false = true) ↔ true = true))) ∧ (¬(hasV (Prod.fst y12) (Prod.fst (Prod.snd y12)) (Prod.snd (Prod.snd y12)) = true ↔ true = true) → false =
true)) ∧ (¬hasV (Prod.fst y10) (Prod.fst (Prod.snd y10)) (Prod.snd (Prod.snd y10)) = true → ((hasV (Prod.fst y12) (Prod.fst (Prod.snd y12)) (Prod.snd (Prod.snd y12)) = true ↔ hasV (Prod.fst y11)
(Prod.fst (Prod.snd y11)) (Prod.snd (Prod.snd y11)) = true) → (hasV (Prod.fst y10) (Prod.fst (Prod.snd y10)) (Prod.snd (Prod.snd y10)) = true → ((hasV (Prod.fst y13) (Prod.fst (Prod.snd y13))
(Prod.snd (Prod.snd y13)) = true ↔ ¬hasV (Prod.fst y11) (Prod.fst (Prod.snd y11)) (Prod.snd (Prod.snd y11)) = true) ↔ true = true)) ∧ (¬hasV (Prod.fst y10) (Prod.fst (Prod.snd y10)) (Prod.snd
(Prod.snd y10)) = true → ((hasV (Prod.fst y13) (Prod.fst (Prod.snd y13)) (Prod.snd (Prod.snd y13)) = true ↔ false = true) ↔ true = true))) ∧ (¬(hasV (Prod.fst y12) (Prod.fst (Prod.snd y12)) (Prod.snd
(Prod.snd y12)) = true ↔ hasV (Prod.fst y11) (Prod.fst (Prod.snd y11)) (Prod.snd (Prod.snd y11)) = true) → false = true)))) ∧ (¬hasE (Prod.fst y12) (Prod.fst (Prod.snd y12)) (Prod.snd (Prod.snd y12))
= hasE (Prod.fst y13) (Prod.fst (Prod.snd y13)) (Prod.snd (Prod.snd y13)) → false = true)) ∧ (¬hasE (Prod.fst y11) (Prod.fst (Prod.snd y11)) (Prod.snd (Prod.snd y11)) = hasE (Prod.fst y12) (Prod.fst
(Prod.snd y12)) (Prod.snd (Prod.snd y12)) → false = true)) ∧ (¬hasE (Prod.fst y10) (Prod.fst (Prod.snd y10)) (Prod.snd (Prod.snd y10)) = hasE (Prod.fst y11) (Prod.fst (Prod.snd y11)) (Prod.snd
(Prod.snd y11)) → false = true)))))))))) := by kernel_rfl
theorem vc_LA (a : LA.ι) : (sexec sxA0 Try.prog cfM 1000 (loopBody Try.prog 5 0) (LA.I a) (LA.round 1000 a)) = (((↑(Prod.snd a) : Int) < (↑(List.length (Prod.fst (Prod.snd (Prod.fst a)))) : Int) → (0 : Int) ≤ (↑(Prod.snd a) : Int) ∧ (↑(Prod.snd a) : Int) < (↑(List.length (Prod.fst (Prod.snd (Prod.fst a)))) :
Int) ∧ Int.toNat (↑(Prod.snd a) : Int) < List.length (Prod.fst (Prod.snd (Prod.fst a))) ∧ ∀ (y1 : Int), (Prod.fst (Prod.snd (Prod.fst a)))[Int.toNat (↑(Prod.snd a) : Int)]? = some y1 → ∃ (y2 : Int ×
List Int × Int), (Prod.fst (Prod.fst a) = Prod.fst y2 ∧ (List.length (Prod.snd (Prod.snd (Prod.fst a))) = List.length (Prod.fst (Prod.snd y2)) ∧ SC.rows eB (1 : Nat) (1 : Nat) true (Prod.snd (Prod.snd
(Prod.fst a))) = SC.rows eB (1 : Nat) (1 : Nat) true (Prod.fst (Prod.snd y2))) ∧ y1 = Prod.snd (Prod.snd y2) ∧ True) ∧ ((∀ (y3 : Int), y3 ∈ Prod.fst (Prod.snd y2) → (0 : Int) ≤ y3 ∧ y3 < (256 : Int))
∧ List.length (Prod.fst (Prod.snd y2)) ≤ (1000 : Nat)) ∧ (¬hasE (Prod.fst y2) (Prod.fst (Prod.snd y2)) (Prod.snd (Prod.snd y2)) = (0 : Int) → Stuck (274 : Nat)) ∧ (¬¬hasE (Prod.fst y2) (Prod.fst
(Prod.snd y2)) (Prod.snd (Prod.snd y2)) = (0 : Int) → (¬hasV (Prod.fst y2) (Prod.fst (Prod.snd y2)) (Prod.snd (Prod.snd y2)) = true → Stuck (274 : Nat)) ∧ (¬¬hasV (Prod.fst y2) (Prod.fst (Prod.snd
y2)) (Prod.snd (Prod.snd y2)) = true → ∃ (y3 : LInv.ι LA), ((∀ (y4 : Int), y4 ∈ Prod.fst (Prod.snd (Prod.fst y3)) → hasE (Prod.fst (Prod.fst y3)) (Prod.snd (Prod.snd (Prod.fst y3))) y4 = (0 : Int) ∧
hasV (Prod.fst (Prod.fst y3)) (Prod.snd (Prod.snd (Prod.fst y3))) y4 = true) ∧ (∀ (y4 : Int), y4 ∈ Prod.snd (Prod.snd (Prod.fst y3)) → (0 : Int) ≤ y4 ∧ y4 < (256 : Int)) ∧ List.length (Prod.snd
(Prod.snd (Prod.fst y3))) ≤ (1000 : Nat) ∧ Prod.snd y3 ≤ List.length (Prod.fst (Prod.snd (Prod.fst y3))) ∧ List.length (Prod.fst (Prod.snd (Prod.fst y3))) ≤ (100 : Nat)) ∧ LInv.μ LA y3 < LInv.μ LA a ∧
(∀ (y4 : LInv.Ω LA), LInv.PE LA y3 y4 → y4 = Prod.fst a) ∧ True ∧ (Prod.fst (Prod.fst a) = Prod.fst (Prod.fst y3) ∧ (List.length (Prod.fst (Prod.snd (Prod.fst a))) = List.length (Prod.fst (Prod.snd
(Prod.fst y3))) ∧ SC.rows (eI IntKind.i64) (1 : Nat) (1 : Nat) true (Prod.fst (Prod.snd (Prod.fst a))) = SC.rows (eI IntKind.i64) (1 : Nat) (1 : Nat) true (Prod.fst (Prod.snd (Prod.fst y3)))) ∧ True ∧
True ∧ True ∧ True ∧ True ∧ true = true ∧ True ∧ True ∧ True ∧ True ∧ (List.length (Prod.snd (Prod.snd (Prod.fst a))) = List.length (Prod.snd (Prod.snd (Prod.fst y3))) ∧ SC.rows eB (1 : Nat) (1 : Nat)
true (Prod.snd (Prod.snd (Prod.fst a))) = SC.rows eB (1 : Nat) (1 : Nat) true (Prod.snd (Prod.snd (Prod.fst y3)))) ∧ True ∧ (List.length (listL (Prod.fst (Prod.fst a)) (Prod.snd (Prod.snd (Prod.fst
a)))) = List.length (listL (Prod.fst (Prod.fst y3)) (Prod.snd (Prod.snd (Prod.fst y3)))) ∧ SC.rows (eI IntKind.i64) (1 : Nat) (1 : Nat) true (listL (Prod.fst (Prod.fst a)) (Prod.snd (Prod.snd
(Prod.fst a)))) = SC.rows (eI IntKind.i64) (1 : Nat) (1 : Nat) true (listL (Prod.fst (Prod.fst y3)) (Prod.snd (Prod.snd (Prod.fst y3))))) ∧ chkR (Prod.fst (Prod.fst a)) (Prod.snd (Prod.snd (Prod.fst
a))) = chkR (Prod.fst (Prod.fst y3)) (Prod.snd (Prod.snd (Prod.fst y3))) ∧ IntKind.wrap IntKind.i64 ((↑(Prod.snd a) : Int) + (1 : Int)) = (↑(Prod.snd y3) : Int) ∧ True ∧ True ∧ True ∧ True ∧ True ∧
True ∧ True ∧ True ∧ True ∧ True ∧ True ∧ True ∧ True ∧ True ∧ True ∧ True ∧ True ∧ True ∧ True ∧ True ∧ True ∧ True ∧ True ∧ True ∧ True ∧ True ∧ True ∧ True ∧ True ∧ True ∧ True ∧ True ∧ True ∧ True
∧ True ∧ True ∧ True ∧ True ∧ True ∧ True ∧ True ∧ True ∧ True ∧ True ∧ True ∧ True ∧ True ∧ True ∧ True ∧ True ∧ True ∧ True ∧ True ∧ True ∧ True ∧ True ∧ True ∧ True ∧ True ∧ True ∧ True ∧ True ∧
True ∧ True ∧ True ∧ True ∧ True ∧ True ∧ True ∧ True ∧ True ∧ True ∧ True ∧ True ∧ True ∧ True ∧ True ∧ True ∧ True ∧ True ∧ True ∧ True ∧ True ∧ True ∧ True ∧ True ∧ True ∧ True ∧ True ∧ True ∧ True
∧ True ∧ True ∧ True ∧ True ∧ True ∧ True ∧ True ∧ True ∧ True ∧ True ∧ True ∧ True ∧ True ∧ True ∧ True ∧ True ∧ True ∧ True ∧ True ∧ True ∧ True ∧ True ∧ True ∧ True ∧ True ∧ True ∧ True ∧ True ∧
True ∧ True ∧ True ∧ True ∧ True ∧ True ∧ True ∧ True ∧ True ∧ True ∧ True ∧ True ∧ True ∧ True ∧ True ∧ True ∧ True ∧ True ∧ True ∧ True ∧ True ∧ True ∧ True ∧ True) ∧ True))) ∧ (¬(↑(Prod.snd a) :
Int) < (↑(List.length (Prod.fst (Prod.snd (Prod.fst a)))) : Int) → ∃ (y1 : LInv.Ω LA), y1 = Prod.fst a ∧ (True ∧ (List.length (Prod.fst (Prod.snd (Prod.fst a))) = List.length (Prod.fst (Prod.snd y1))
∧ SC.rows (eI IntKind.i64) (1 : Nat) (1 : Nat) true (Prod.fst (Prod.snd (Prod.fst a))) = SC.rows (eI IntKind.i64) (1 : Nat) (1 : Nat) true (Prod.fst (Prod.snd y1))) ∧ True ∧ True ∧ True ∧ True ∧ True
∧ true = true ∧ True ∧ True ∧ True ∧ True ∧ True ∧ True ∧ (List.length (listL (Prod.fst (Prod.fst a)) (Prod.snd (Prod.snd (Prod.fst a)))) = List.length (listL (Prod.fst y1) (Prod.snd (Prod.snd y1))) ∧
SC.rows (eI IntKind.i64) (1 : Nat) (1 : Nat) true (listL (Prod.fst (Prod.fst a)) (Prod.snd (Prod.snd (Prod.fst a)))) = SC.rows (eI IntKind.i64) (1 : Nat) (1 : Nat) true (listL (Prod.fst y1) (Prod.snd
(Prod.snd y1)))) ∧ chkR (Prod.fst (Prod.fst a)) (Prod.snd (Prod.snd (Prod.fst a))) = chkR (Prod.fst y1) (Prod.snd (Prod.snd y1)) ∧ True ∧ True ∧ True ∧ True ∧ True ∧ True ∧ True ∧ True ∧ True ∧ True ∧
True ∧ True ∧ True ∧ True ∧ True ∧ True ∧ True ∧ True ∧ True ∧ True ∧ True ∧ True ∧ True ∧ True ∧ True ∧ True ∧ True ∧ True ∧ True ∧ True ∧ True ∧ True ∧ True ∧ True ∧ True ∧ True ∧ True ∧ True ∧ True
∧ True ∧ True ∧ True ∧ True ∧ True ∧ True ∧ True ∧ True ∧ True ∧ True ∧ True ∧ True ∧ True ∧ True ∧ True ∧ True ∧ True ∧ True ∧ True ∧ True ∧ True ∧ True ∧ True ∧ True ∧ True ∧ True ∧ True ∧ True ∧
True ∧ True ∧ True ∧ True ∧ True ∧ True ∧ True ∧ True ∧ True ∧ True ∧ True ∧ True ∧ True ∧ True ∧ True ∧ True ∧ True ∧ True ∧ True ∧ True ∧ True ∧ True ∧ True ∧ True ∧ True ∧ True ∧ True ∧ True ∧ True
∧ True ∧ True ∧ True ∧ True ∧ True ∧ True ∧ True ∧ True ∧ True ∧ True ∧ True ∧ True ∧ True ∧ True ∧ True ∧ True ∧ True ∧ True ∧ True ∧ True ∧ True ∧ True ∧ True ∧ True ∧ True ∧ True ∧ True ∧ True ∧
True ∧ True ∧ True ∧ True ∧ True ∧ True ∧ True ∧ True ∧ True ∧ True ∧ True ∧ True ∧ True ∧ True ∧ True ∧ True ∧ True ∧ True ∧ True ∧ True) ∧ True)) := by kernel_rfl
theorem vc_LC (a : LC.ι) : (sexec sxC0 Try.prog cfM 1000 (loopBody Try.prog 5 2) (LC.I a) (LC.round 1000 a)) = (((↑(Prod.snd a) : Int) < (↑(List.length (Prod.fst (Prod.snd (Prod.fst (Prod.fst a))))) : Int) → ((∃ (k : Nat), k < Prod.snd a ∧ (Prod.fst (Prod.snd (Prod.fst (Prod.fst a))))[k]? = (Prod.snd (Prod.snd
(Prod.fst (Prod.fst a))))[Prod.snd (Prod.fst a)]?) → ∃ (y1 : LInv.ι LC), (Prod.snd (Prod.fst y1) < List.length (Prod.snd (Prod.snd (Prod.fst (Prod.fst y1)))) ∧ List.length (Prod.snd (Prod.snd
(Prod.fst (Prod.fst y1)))) ≤ (100 : Nat) ∧ Prod.snd y1 ≤ List.length (Prod.fst (Prod.snd (Prod.fst (Prod.fst y1)))) ∧ List.length (Prod.fst (Prod.snd (Prod.fst (Prod.fst y1)))) ≤ (100 : Nat)) ∧ LInv.μ
LC y1 < LInv.μ LC a ∧ (∀ (y2 : LInv.Ω LC), LInv.PE LC y1 y2 → y2 = Prod.fst a) ∧ True ∧ (True ∧ (List.length (Prod.fst (Prod.snd (Prod.fst (Prod.fst a)))) = List.length (Prod.fst (Prod.snd (Prod.fst
(Prod.fst y1)))) ∧ SC.rows (eI IntKind.i64) (1 : Nat) (1 : Nat) true (Prod.fst (Prod.snd (Prod.fst (Prod.fst a)))) = SC.rows (eI IntKind.i64) (1 : Nat) (1 : Nat) true (Prod.fst (Prod.snd (Prod.fst
(Prod.fst y1))))) ∧ True ∧ True ∧ True ∧ True ∧ True ∧ true = true ∧ True ∧ True ∧ True ∧ True ∧ True ∧ True ∧ (List.length (Prod.snd (Prod.snd (Prod.fst (Prod.fst a)))) = List.length (Prod.snd
(Prod.snd (Prod.fst (Prod.fst y1)))) ∧ SC.rows (eI IntKind.i64) (1 : Nat) (1 : Nat) true (Prod.snd (Prod.snd (Prod.fst (Prod.fst a)))) = SC.rows (eI IntKind.i64) (1 : Nat) (1 : Nat) true (Prod.snd
(Prod.snd (Prod.fst (Prod.fst y1))))) ∧ Prod.fst (Prod.fst (Prod.fst a)) = Prod.fst (Prod.fst (Prod.fst y1)) ∧ True ∧ True ∧ True ∧ (↑(Prod.snd (Prod.fst a)) : Int) = (↑(Prod.snd (Prod.fst y1)) : Int)
∧ (true = true ↔ ∃ (k : Nat), k < Prod.snd y1 ∧ (Prod.fst (Prod.snd (Prod.fst (Prod.fst y1))))[k]? = (Prod.snd (Prod.snd (Prod.fst (Prod.fst y1))))[Prod.snd (Prod.fst y1)]?) ∧ IntKind.wrap IntKind.i64
((↑(Prod.snd a) : Int) + (1 : Int)) = (↑(Prod.snd y1) : Int) ∧ True ∧ True ∧ True ∧ True ∧ True ∧ True ∧ True ∧ True ∧ True ∧ True ∧ True ∧ True ∧ True ∧ True ∧ True ∧ True ∧ True ∧ True ∧ True ∧ True
∧ True ∧ True ∧ True ∧ True ∧ True ∧ True ∧ True ∧ True ∧ True ∧ True ∧ True ∧ True ∧ True ∧ True ∧ True ∧ True ∧ True ∧ True ∧ True ∧ True ∧ True ∧ True ∧ True ∧ True ∧ True ∧ True ∧ True ∧ True ∧
True ∧ True ∧ True ∧ True ∧ True ∧ True ∧ True ∧ True ∧ True ∧ True ∧ True ∧ True ∧ True ∧ True ∧ True ∧ True ∧ True ∧ True ∧ True ∧ True ∧ True ∧ True ∧ True ∧ True ∧ True ∧ True ∧ True ∧ True ∧ True
∧ True ∧ True ∧ True ∧ True ∧ True ∧ True ∧ True ∧ True ∧ True ∧ True ∧ True ∧ True ∧ True ∧ True ∧ True ∧ True ∧ True ∧ True ∧ True ∧ True ∧ True ∧ True ∧ True ∧ True ∧ True ∧ True ∧ True ∧ True ∧
True ∧ True ∧ True ∧ True ∧ True ∧ True ∧ True ∧ True ∧ True ∧ True ∧ True ∧ True ∧ True ∧ True ∧ True ∧ True ∧ True ∧ True ∧ True ∧ True ∧ True ∧ True ∧ True ∧ True ∧ True ∧ True ∧ True ∧ True ∧ True
∧ True ∧ True ∧ True ∧ True) ∧ True) ∧ ((¬∃ (k : Nat), k < Prod.snd a ∧ (Prod.fst (Prod.snd (Prod.fst (Prod.fst a))))[k]? = (Prod.snd (Prod.snd (Prod.fst (Prod.fst a))))[Prod.snd (Prod.fst a)]?) → (0
: Int) ≤ (↑(Prod.snd a) : Int) ∧ (↑(Prod.snd a) : Int) < (↑(List.length (Prod.fst (Prod.snd (Prod.fst (Prod.fst a))))) : Int) ∧ Int.toNat (↑(Prod.snd a) : Int) < List.length (Prod.fst (Prod.snd
(Prod.fst (Prod.fst a)))) ∧ ∀ (y1 : Int), (Prod.fst (Prod.snd (Prod.fst (Prod.fst a))))[Int.toNat (↑(Prod.snd a) : Int)]? = some y1 → (0 : Int) ≤ (↑(Prod.snd (Prod.fst a)) : Int) ∧ (↑(Prod.snd
(Prod.fst a)) : Int) < (↑(List.length (Prod.snd (Prod.snd (Prod.fst (Prod.fst a))))) : Int) ∧ Int.toNat (↑(Prod.snd (Prod.fst a)) : Int) < List.length (Prod.snd (Prod.snd (Prod.fst (Prod.fst a)))) ∧ ∀
(y2 : Int), (Prod.snd (Prod.snd (Prod.fst (Prod.fst a))))[Int.toNat (↑(Prod.snd (Prod.fst a)) : Int)]? = some y2 → ∃ (y3 : LInv.ι LC), (Prod.snd (Prod.fst y3) < List.length (Prod.snd (Prod.snd
(Prod.fst (Prod.fst y3)))) ∧ List.length (Prod.snd (Prod.snd (Prod.fst (Prod.fst y3)))) ≤ (100 : Nat) ∧ Prod.snd y3 ≤ List.length (Prod.fst (Prod.snd (Prod.fst (Prod.fst y3)))) ∧ List.length (Prod.fst
(Prod.snd (Prod.fst (Prod.fst y3)))) ≤ (100 : Nat)) ∧ LInv.μ LC y3 < LInv.μ LC a ∧ (∀ (y4 : LInv.Ω LC), LInv.PE LC y3 y4 → y4 = Prod.fst a) ∧ True ∧ (True ∧ (List.length (Prod.fst (Prod.snd (Prod.fst
(Prod.fst a)))) = List.length (Prod.fst (Prod.snd (Prod.fst (Prod.fst y3)))) ∧ SC.rows (eI IntKind.i64) (1 : Nat) (1 : Nat) true (Prod.fst (Prod.snd (Prod.fst (Prod.fst a)))) = SC.rows (eI
IntKind.i64) (1 : Nat) (1 : Nat) true (Prod.fst (Prod.snd (Prod.fst (Prod.fst y3))))) ∧ True ∧ True ∧ True ∧ True ∧ True ∧ true = true ∧ True ∧ True ∧ True ∧ True ∧ True ∧ True ∧ (List.length
(Prod.snd (Prod.snd (Prod.fst (Prod.fst a)))) = List.length (Prod.snd (Prod.snd (Prod.fst (Prod.fst y3)))) ∧ SC.rows (eI IntKind.i64) (1 : Nat) (1 : Nat) true (Prod.snd (Prod.snd (Prod.fst (Prod.fst
a)))) = SC.rows (eI IntKind.i64) (1 : Nat) (1 : Nat) true (Prod.snd (Prod.snd (Prod.fst (Prod.fst y3))))) ∧ Prod.fst (Prod.fst (Prod.fst a)) = Prod.fst (Prod.fst (Prod.fst y3)) ∧ True ∧ True ∧ True ∧
(↑(Prod.snd (Prod.fst a)) : Int) = (↑(Prod.snd (Prod.fst y3)) : Int) ∧ (y1 = y2 ↔ ∃ (k : Nat), k < Prod.snd y3 ∧ (Prod.fst (Prod.snd (Prod.fst (Prod.fst y3))))[k]? = (Prod.snd (Prod.snd (Prod.fst
(Prod.fst y3))))[Prod.snd (Prod.fst y3)]?) ∧ IntKind.wrap IntKind.i64 ((↑(Prod.snd a) : Int) + (1 : Int)) = (↑(Prod.snd y3) : Int) ∧ True ∧ True ∧ True ∧ True ∧ True ∧ True ∧ True ∧ True ∧ True ∧ True
∧ True ∧ True ∧ True ∧ True ∧ True ∧ True ∧ True ∧ True ∧ True ∧ True ∧ True ∧ True ∧ True ∧ True ∧ True ∧ True ∧ True ∧ True ∧ True ∧ True ∧ True ∧ True ∧ True ∧ True ∧ True ∧ True ∧ True ∧ True ∧
True ∧ True ∧ True ∧ True ∧ True ∧ True ∧ True ∧ True ∧ True ∧ True ∧ True ∧ True ∧ True ∧ True ∧ True ∧ True ∧ True ∧ True ∧ True ∧ True ∧ True ∧ True ∧ True ∧ True ∧ True ∧ True ∧ True ∧ True ∧ True
∧ True ∧ True ∧ True ∧ True ∧ True ∧ True ∧ True ∧ True ∧ True ∧ True ∧ True ∧ True ∧ True ∧ True ∧ True ∧ True ∧ True ∧ True ∧ True ∧ True ∧ True ∧ True ∧ True ∧ True ∧ True ∧ True ∧ True ∧ True ∧
True ∧ True ∧ True ∧ True ∧ True ∧ True ∧ True ∧ True ∧ True ∧ True ∧ True ∧ True ∧ True ∧ True ∧ True ∧ True ∧ True ∧ True ∧ True ∧ True ∧ True ∧ True ∧ True ∧ True ∧ True ∧ True ∧ True ∧ True ∧ True
∧ True ∧ True ∧ True ∧ True ∧ True ∧ True ∧ True ∧ True ∧ True ∧ True ∧ True ∧ True ∧ True ∧ True) ∧ True)) ∧ (¬(↑(Prod.snd a) : Int) < (↑(List.length (Prod.fst (Prod.snd (Prod.fst (Prod.fst a))))) :
Int) → ∃ (y1 : LInv.Ω LC), y1 = Prod.fst a ∧ (True ∧ (List.length (Prod.fst (Prod.snd (Prod.fst (Prod.fst a)))) = List.length (Prod.fst (Prod.snd (Prod.fst y1))) ∧ SC.rows (eI IntKind.i64) (1 : Nat)
(1 : Nat) true (Prod.fst (Prod.snd (Prod.fst (Prod.fst a)))) = SC.rows (eI IntKind.i64) (1 : Nat) (1 : Nat) true (Prod.fst (Prod.snd (Prod.fst y1)))) ∧ True ∧ True ∧ True ∧ True ∧ True ∧ true = true ∧
True ∧ True ∧ True ∧ True ∧ True ∧ True ∧ (List.length (Prod.snd (Prod.snd (Prod.fst (Prod.fst a)))) = List.length (Prod.snd (Prod.snd (Prod.fst y1))) ∧ SC.rows (eI IntKind.i64) (1 : Nat) (1 : Nat)
true (Prod.snd (Prod.snd (Prod.fst (Prod.fst a)))) = SC.rows (eI IntKind.i64) (1 : Nat) (1 : Nat) true (Prod.snd (Prod.snd (Prod.fst y1)))) ∧ Prod.fst (Prod.fst (Prod.fst a)) = Prod.fst (Prod.fst y1)
∧ True ∧ True ∧ True ∧ (↑(Prod.snd (Prod.fst a)) : Int) = (↑(Prod.snd y1) : Int) ∧ ((∃ (k : Nat), k < Prod.snd a ∧ (Prod.fst (Prod.snd (Prod.fst (Prod.fst a))))[k]? = (Prod.snd (Prod.snd (Prod.fst
(Prod.fst a))))[Prod.snd (Prod.fst a)]?) ↔ ∃ (k : Nat), k < List.length (Prod.fst (Prod.snd (Prod.fst y1))) ∧ (Prod.fst (Prod.snd (Prod.fst y1)))[k]? = (Prod.snd (Prod.snd (Prod.fst y1)))[Prod.snd
y1]?) ∧ True ∧ True ∧ True ∧ True ∧ True ∧ True ∧ True ∧ True ∧ True ∧ True ∧ True ∧ True ∧ True ∧ True ∧ True ∧ True ∧ True ∧ True ∧ True ∧ True ∧ True ∧ True ∧ True ∧ True ∧ True ∧ True ∧ True ∧
True ∧ True ∧ True ∧ True ∧ True ∧ True ∧ True ∧ True ∧ True ∧ True ∧ True ∧ True ∧ True ∧ True ∧ True ∧ True ∧ True ∧ True ∧ True ∧ True ∧ True ∧ True ∧ True ∧ True ∧ True ∧ True ∧ True ∧ True ∧ True
∧ True ∧ True ∧ True ∧ True ∧ True ∧ True ∧ True ∧ True ∧ True ∧ True ∧ True ∧ True ∧ True ∧ True ∧ True ∧ True ∧ True ∧ True ∧ True ∧ True ∧ True ∧ True ∧ True ∧ True ∧ True ∧ True ∧ True ∧ True ∧
True ∧ True ∧ True ∧ True ∧ True ∧ True ∧ True ∧ True ∧ True ∧ True ∧ True ∧ True ∧ True ∧ True ∧ True ∧ True ∧ True ∧ True ∧ True ∧ True ∧ True ∧ True ∧ True ∧ True ∧ True ∧ True ∧ True ∧ True ∧ True
∧ True ∧ True ∧ True ∧ True ∧ True ∧ True ∧ True ∧ True ∧ True ∧ True ∧ True ∧ True ∧ True ∧ True ∧ True ∧ True ∧ True ∧ True ∧ True ∧ True ∧ True ∧ True ∧ True ∧ True ∧ True ∧ True) ∧ True)) := by kernel_rfl
theorem vc_LB (a : LB.ι) : (sexec sxB0 Try.prog cfM 1000 (loopBody Try.prog 5 1) (LB.I a) (LB.round 1000 a)) = (((↑(Prod.snd a) : Int) < (↑(List.length (Prod.snd (Prod.snd (Prod.fst a)))) : Int) → SameCode (loopBody Try.prog (5 : Nat) (2 : Nat)) (loopBody Try.prog (5 : Nat) (2 : Nat)) ∧ ∃ (y1 : LInv.ι LC),
(Prod.snd (Prod.fst y1) < List.length (Prod.snd (Prod.snd (Prod.fst (Prod.fst y1)))) ∧ List.length (Prod.snd (Prod.snd (Prod.fst (Prod.fst y1)))) ≤ (100 : Nat) ∧ Prod.snd y1 ≤ List.length (Prod.fst
(Prod.snd (Prod.fst (Prod.fst y1)))) ∧ List.length (Prod.fst (Prod.snd (Prod.fst (Prod.fst y1)))) ≤ (100 : Nat)) ∧ ((True ∧ (List.length (Prod.fst (Prod.snd (Prod.fst a))) = List.length (Prod.fst
(Prod.snd (Prod.fst (Prod.fst y1)))) ∧ SC.rows (eI IntKind.i64) (1 : Nat) (1 : Nat) true (Prod.fst (Prod.snd (Prod.fst a))) = SC.rows (eI IntKind.i64) (1 : Nat) (1 : Nat) true (Prod.fst (Prod.snd
(Prod.fst (Prod.fst y1))))) ∧ True ∧ True ∧ True ∧ True ∧ True ∧ true = true ∧ True ∧ True ∧ True ∧ True ∧ True ∧ True ∧ (List.length (Prod.snd (Prod.snd (Prod.fst a))) = List.length (Prod.snd
(Prod.snd (Prod.fst (Prod.fst y1)))) ∧ SC.rows (eI IntKind.i64) (1 : Nat) (1 : Nat) true (Prod.snd (Prod.snd (Prod.fst a))) = SC.rows (eI IntKind.i64) (1 : Nat) (1 : Nat) true (Prod.snd (Prod.snd
(Prod.fst (Prod.fst y1))))) ∧ Prod.fst (Prod.fst a) = Prod.fst (Prod.fst (Prod.fst y1)) ∧ True ∧ True ∧ True ∧ (↑(Prod.snd a) : Int) = (↑(Prod.snd (Prod.fst y1)) : Int) ∧ (false = true ↔ ∃ (k : Nat),
k < Prod.snd y1 ∧ (Prod.fst (Prod.snd (Prod.fst (Prod.fst y1))))[k]? = (Prod.snd (Prod.snd (Prod.fst (Prod.fst y1))))[Prod.snd (Prod.fst y1)]?) ∧ (0 : Int) = (↑(Prod.snd y1) : Int) ∧ True ∧ True ∧
True ∧ True ∧ True ∧ True ∧ True ∧ True ∧ True ∧ True ∧ True ∧ True ∧ True ∧ True ∧ True ∧ True ∧ True ∧ True ∧ True ∧ True ∧ True ∧ True ∧ True ∧ True ∧ True ∧ True ∧ True ∧ True ∧ True ∧ True ∧ True
∧ True ∧ True ∧ True ∧ True ∧ True ∧ True ∧ True ∧ True ∧ True ∧ True ∧ True ∧ True ∧ True ∧ True ∧ True ∧ True ∧ True ∧ True ∧ True ∧ True ∧ True ∧ True ∧ True ∧ True ∧ True ∧ True ∧ True ∧ True ∧
True ∧ True ∧ True ∧ True ∧ True ∧ True ∧ True ∧ True ∧ True ∧ True ∧ True ∧ True ∧ True ∧ True ∧ True ∧ True ∧ True ∧ True ∧ True ∧ True ∧ True ∧ True ∧ True ∧ True ∧ True ∧ True ∧ True ∧ True ∧ True
∧ True ∧ True ∧ True ∧ True ∧ True ∧ True ∧ True ∧ True ∧ True ∧ True ∧ True ∧ True ∧ True ∧ True ∧ True ∧ True ∧ True ∧ True ∧ True ∧ True ∧ True ∧ True ∧ True ∧ True ∧ True ∧ True ∧ True ∧ True ∧
True ∧ True ∧ True ∧ True ∧ True ∧ True ∧ True ∧ True ∧ True ∧ True ∧ True ∧ True ∧ True ∧ True ∧ True ∧ True ∧ True ∧ True ∧ True ∧ True ∧ True ∧ True) ∧ True) ∧ (∀ (y2 : LInv.ι LC), True) ∧ (∀ (y2 :
LInv.Ω LC), LInv.PE LC y1 y2 → ((¬∃ (k : Nat), k < List.length (Prod.fst (Prod.snd (Prod.fst y2))) ∧ (Prod.fst (Prod.snd (Prod.fst y2)))[k]? = (Prod.snd (Prod.snd (Prod.fst y2)))[Prod.snd y2]?) →
Stuck (274 : Nat)) ∧ ((¬¬∃ (k : Nat), k < List.length (Prod.fst (Prod.snd (Prod.fst y2))) ∧ (Prod.fst (Prod.snd (Prod.fst y2)))[k]? = (Prod.snd (Prod.snd (Prod.fst y2)))[Prod.snd y2]?) → ((0 : Int) <
(↑(Prod.snd y2) : Int) → (0 : Int) ≤ (↑(Prod.snd y2) : Int) ∧ (↑(Prod.snd y2) : Int) < (↑(List.length (Prod.snd (Prod.snd (Prod.fst y2)))) : Int) ∧ Int.toNat (↑(Prod.snd y2) : Int) < List.length
(Prod.snd (Prod.snd (Prod.fst y2))) ∧ ∀ (y3 : Int), (Prod.snd (Prod.snd (Prod.fst y2)))[Int.toNat (↑(Prod.snd y2) : Int)]? = some y3 → (0 : Int) ≤ IntKind.wrap IntKind.i64 ((↑(Prod.snd y2) : Int) - (1
: Int)) ∧ IntKind.wrap IntKind.i64 ((↑(Prod.snd y2) : Int) - (1 : Int)) < (↑(List.length (Prod.snd (Prod.snd (Prod.fst y2)))) : Int) ∧ Int.toNat (IntKind.wrap IntKind.i64 ((↑(Prod.snd y2) : Int) - (1
: Int))) < List.length (Prod.snd (Prod.snd (Prod.fst y2))) ∧ ∀ (y4 : Int), (Prod.snd (Prod.snd (Prod.fst y2)))[Int.toNat (IntKind.wrap IntKind.i64 ((↑(Prod.snd y2) : Int) - (1 : Int)))]? = some y4 →
(y3 ≤ y4 → Stuck (274 : Nat)) ∧ (¬y3 ≤ y4 → ∃ (y5 : LInv.ι LB), ((∀ (y6 : Int), y6 ∈ Prod.snd (Prod.snd (Prod.fst y5)) → y6 ∈ Prod.fst (Prod.snd (Prod.fst y5))) ∧ (∀ (y6 : Nat) (y7 y8 : Int),
(Prod.snd (Prod.snd (Prod.fst y5)))[y6]? = some y7 → (Prod.snd (Prod.snd (Prod.fst y5)))[y6 + (1 : Nat)]? = some y8 → y7 < y8) ∧ Prod.snd y5 ≤ List.length (Prod.snd (Prod.snd (Prod.fst y5))) ∧
List.length (Prod.snd (Prod.snd (Prod.fst y5))) ≤ (100 : Nat) ∧ List.length (Prod.fst (Prod.snd (Prod.fst y5))) ≤ (100 : Nat)) ∧ LInv.μ LB y5 < LInv.μ LB a ∧ (∀ (y6 : LInv.Ω LB), LInv.PE LB y5 y6 → y6
= Prod.fst (Prod.fst a)) ∧ True ∧ (True ∧ (List.length (Prod.fst (Prod.snd (Prod.fst y2))) = List.length (Prod.fst (Prod.snd (Prod.fst y5))) ∧ SC.rows (eI IntKind.i64) (1 : Nat) (1 : Nat) true
(Prod.fst (Prod.snd (Prod.fst y2))) = SC.rows (eI IntKind.i64) (1 : Nat) (1 : Nat) true (Prod.fst (Prod.snd (Prod.fst y5)))) ∧ True ∧ True ∧ True ∧ True ∧ True ∧ true = true ∧ True ∧ True ∧ True ∧
True ∧ True ∧ True ∧ (List.length (Prod.snd (Prod.snd (Prod.fst y2))) = List.length (Prod.snd (Prod.snd (Prod.fst y5))) ∧ SC.rows (eI IntKind.i64) (1 : Nat) (1 : Nat) true (Prod.snd (Prod.snd
(Prod.fst y2))) = SC.rows (eI IntKind.i64) (1 : Nat) (1 : Nat) true (Prod.snd (Prod.snd (Prod.fst y5)))) ∧ Prod.fst (Prod.fst y2) = Prod.fst (Prod.fst y5) ∧ True ∧ True ∧ True ∧ IntKind.wrap
IntKind.i64 ((↑(Prod.snd y2) : Int) + (1 : Int)) = (↑(Prod.snd y5) : Int) ∧ True ∧ True ∧ True ∧ True ∧ True ∧ True ∧ True ∧ True ∧ True ∧ True ∧ True ∧ True ∧ True ∧ True ∧ True ∧ True ∧ True ∧ True
∧ True ∧ True ∧ True ∧ True ∧ True ∧ True ∧ True ∧ True ∧ True ∧ True ∧ True ∧ True ∧ True ∧ True ∧ True ∧ True ∧ True ∧ True ∧ True ∧ True ∧ True ∧ True ∧ True ∧ True ∧ True ∧ True ∧ True ∧ True ∧
True ∧ True ∧ True ∧ True ∧ True ∧ True ∧ True ∧ True ∧ True ∧ True ∧ True ∧ True ∧ True ∧ True ∧ True ∧ True ∧ True ∧ True ∧ True ∧ True ∧ True ∧ True ∧ True ∧ True ∧ True ∧ True ∧ True ∧ True ∧ True
∧ True ∧ True ∧ True ∧ True ∧ True ∧ True ∧ True ∧ True ∧ True ∧ True ∧ True ∧ True ∧ True ∧ True ∧ True ∧ True ∧ True ∧ True ∧ True ∧ True ∧ True ∧ True ∧ True ∧ True ∧ True ∧ True ∧ True ∧ True ∧
True ∧ True ∧ True ∧ True ∧ True ∧ True ∧ True ∧ True ∧ True ∧ True ∧ True ∧ True ∧ True ∧ True ∧ True ∧ True ∧ True ∧ True ∧ True ∧ True ∧ True ∧ True ∧ True ∧ True ∧ True ∧ True ∧ True ∧ True ∧ True
∧ True ∧ True ∧ True ∧ True ∧ True ∧ True ∧ True ∧ True) ∧ True)) ∧ (¬(0 : Int) < (↑(Prod.snd y2) : Int) → ∃ (y3 : LInv.ι LB), ((∀ (y4 : Int), y4 ∈ Prod.snd (Prod.snd (Prod.fst y3)) → y4 ∈ Prod.fst
(Prod.snd (Prod.fst y3))) ∧ (∀ (y4 : Nat) (y5 y6 : Int), (Prod.snd (Prod.snd (Prod.fst y3)))[y4]? = some y5 → (Prod.snd (Prod.snd (Prod.fst y3)))[y4 + (1 : Nat)]? = some y6 → y5 < y6) ∧ Prod.snd y3 ≤
List.length (Prod.snd (Prod.snd (Prod.fst y3))) ∧ List.length (Prod.snd (Prod.snd (Prod.fst y3))) ≤ (100 : Nat) ∧ List.length (Prod.fst (Prod.snd (Prod.fst y3))) ≤ (100 : Nat)) ∧ LInv.μ LB y3 < LInv.μ
LB a ∧ (∀ (y4 : LInv.Ω LB), LInv.PE LB y3 y4 → y4 = Prod.fst (Prod.fst a)) ∧ True ∧ (True ∧ (List.length (Prod.fst (Prod.snd (Prod.fst y2))) = List.length (Prod.fst (Prod.snd (Prod.fst y3))) ∧ SC.rows
(eI IntKind.i64) (1 : Nat) (1 : Nat) true (Prod.fst (Prod.snd (Prod.fst y2))) = SC.rows (eI IntKind.i64) (1 : Nat) (1 : Nat) true (Prod.fst (Prod.snd (Prod.fst y3)))) ∧ True ∧ True ∧ True ∧ True ∧
True ∧ true = true ∧ True ∧ True ∧ True ∧ True ∧ True ∧ True ∧ (List.length (Prod.snd (Prod.snd (Prod.fst y2))) = List.length (Prod.snd (Prod.snd (Prod.fst y3))) ∧ SC.rows (eI IntKind.i64) (1 : Nat)
(1 : Nat) true (Prod.snd (Prod.snd (Prod.fst y2))) = SC.rows (eI IntKind.i64) (1 : Nat) (1 : Nat) true (Prod.snd (Prod.snd (Prod.fst y3)))) ∧ Prod.fst (Prod.fst y2) = Prod.fst (Prod.fst y3) ∧ True ∧
True ∧ True ∧ IntKind.wrap IntKind.i64 ((↑(Prod.snd y2) : Int) + (1 : Int)) = (↑(Prod.snd y3) : Int) ∧ True ∧ True ∧ True ∧ True ∧ True ∧ True ∧ True ∧ True ∧ True ∧ True ∧ True ∧ True ∧ True ∧ True ∧
True ∧ True ∧ True ∧ True ∧ True ∧ True ∧ True ∧ True ∧ True ∧ True ∧ True ∧ True ∧ True ∧ True ∧ True ∧ True ∧ True ∧ True ∧ True ∧ True ∧ True ∧ True ∧ True ∧ True ∧ True ∧ True ∧ True ∧ True ∧ True
∧ True ∧ True ∧ True ∧ True ∧ True ∧ True ∧ True ∧ True ∧ True ∧ True ∧ True ∧ True ∧ True ∧ True ∧ True ∧ True ∧ True ∧ True ∧ True ∧ True ∧ True ∧ True ∧ True ∧ True ∧ True ∧ True ∧ True ∧ True ∧
True ∧ True ∧ True ∧ True ∧ True ∧ True ∧ True ∧ True ∧ True ∧ True ∧ True ∧ True ∧ True ∧ True ∧ True ∧ True ∧ True ∧ True ∧ True ∧ True ∧ True ∧ True ∧ True ∧ True ∧ True ∧ True ∧ True ∧ True ∧ True
∧ True ∧ True ∧ True ∧ True ∧ True ∧ True ∧ True ∧ True ∧ True ∧ True ∧ True ∧ True ∧ True ∧ True ∧ True ∧ True ∧ True ∧ True ∧ True ∧ True ∧ True ∧ True ∧ True ∧ True ∧ True ∧ True ∧ True ∧ True ∧
True ∧ True ∧ True ∧ True ∧ True ∧ True ∧ True ∧ True ∧ True ∧ True ∧ True ∧ True) ∧ True))) ∧ True) ∧ (¬(↑(Prod.snd a) : Int) < (↑(List.length (Prod.snd (Prod.snd (Prod.fst a)))) : Int) → ∃ (y1 :
LInv.Ω LB), y1 = Prod.fst (Prod.fst a) ∧ (True ∧ True ∧ True ∧ True ∧ True ∧ True ∧ True ∧ true = true ∧ True ∧ True ∧ True ∧ True ∧ True ∧ True ∧ True ∧ Prod.fst (Prod.fst a) = y1 ∧ True ∧ True ∧
True ∧ True ∧ True ∧ True ∧ True ∧ True ∧ True ∧ True ∧ True ∧ True ∧ True ∧ True ∧ True ∧ True ∧ True ∧ True ∧ True ∧ True ∧ True ∧ True ∧ True ∧ True ∧ True ∧ True ∧ True ∧ True ∧ True ∧ True ∧ True
∧ True ∧ True ∧ True ∧ True ∧ True ∧ True ∧ True ∧ True ∧ True ∧ True ∧ True ∧ True ∧ True ∧ True ∧ True ∧ True ∧ True ∧ True ∧ True ∧ True ∧ True ∧ True ∧ True ∧ True ∧ True ∧ True ∧ True ∧ True ∧
True ∧ True ∧ True ∧ True ∧ True ∧ True ∧ True ∧ True ∧ True ∧ True ∧ True ∧ True ∧ True ∧ True ∧ True ∧ True ∧ True ∧ True ∧ True ∧ True ∧ True ∧ True ∧ True ∧ True ∧ True ∧ True ∧ True ∧ True ∧ True
∧ True ∧ True ∧ True ∧ True ∧ True ∧ True ∧ True ∧ True ∧ True ∧ True ∧ True ∧ True ∧ True ∧ True ∧ True ∧ True ∧ True ∧ True ∧ True ∧ True ∧ True ∧ True ∧ True ∧ True ∧ True ∧ True ∧ True ∧ True ∧
True ∧ True ∧ True ∧ True ∧ True ∧ True ∧ True ∧ True ∧ True ∧ True ∧ True ∧ True ∧ True ∧ True ∧ True ∧ True ∧ True ∧ True ∧ True ∧ True ∧ True ∧ True ∧ True ∧ True ∧ True ∧ True ∧ True ∧ True) ∧
True)) := by kernel_rfl
theorem vc_Back (n : Int) (l s : List Int) : (scallI sxBack Try.prog cfM (sexec sxBack Try.prog cfM 1000) 5 0 [.int .i64 (.sym n), rowJ l, row s] (post (.bool (.lit true)))) = (∃ (y3 : Unit), True ∧ True ∧ ((100 : Int) < (↑(List.length l) : Int) → true = true) ∧ (¬(100 : Int) < (↑(List.length l) : Int) → ((100 : Int) < (↑(List.length s) : Int) → true = true) ∧ (¬(100 : Int)
< (↑(List.length s) : Int) → ∃ (y4 : Int × List Int), (n = Prod.fst y4 ∧ (List.length s = List.length (Prod.snd y4) ∧ SC.rows eB (1 : Nat) (1 : Nat) true s = SC.rows eB (1 : Nat) (1 : Nat) true
(Prod.snd y4)) ∧ True) ∧ ((∀ (y5 : Int), y5 ∈ Prod.snd y4 → (0 : Int) ≤ y5 ∧ y5 < (256 : Int)) ∧ List.length (Prod.snd y4) ≤ (1000 : Nat)) ∧ ∃ (y5 : Int × List Int), (n = Prod.fst y5 ∧ (List.length
(listL (Prod.fst y4) (Prod.snd y4)) = List.length (Prod.snd y5) ∧ SC.rows (eI IntKind.i64) (1 : Nat) (1 : Nat) true (listL (Prod.fst y4) (Prod.snd y4)) = SC.rows (eI IntKind.i64) (1 : Nat) (1 : Nat)
true (Prod.snd y5)) ∧ True) ∧ List.length (Prod.snd y5) ≤ (10000 : Nat) ∧ (chkR (Prod.fst y4) (Prod.snd y4) = (0 : Int) → (¬ofE (Prod.fst y5) (Prod.snd y5) = (0 : Int) → false = true) ∧ (¬¬ofE
(Prod.fst y5) (Prod.snd y5) = (0 : Int) → List.length (ofL (Prod.fst y5) (Prod.snd y5)) ≤ List.length (ofL (Prod.fst y5) (Prod.snd y5)) ∧ ∃ (y6 : List Int), SC.rows eB (1 : Nat) (1 : Nat) true
(List.take (List.length (ofL (Prod.fst y5) (Prod.snd y5))) (rdrop (SN.lit (0 : Nat)) (ofL (Prod.fst y5) (Prod.snd y5)))) = SC.rows eB (1 : Nat) (1 : Nat) true y6 ∧ List.length s ≤ List.length s ∧ ∃
(y7 : List Int), SC.rows eB (1 : Nat) (1 : Nat) true (List.take (List.length s) (rdrop (SN.lit (0 : Nat)) s)) = SC.rows eB (1 : Nat) (1 : Nat) true y7 ∧ isBytes y6 ∧ isBytes y7 ∧ (¬y6 = y7 → false =
true) ∧ (¬¬y6 = y7 → (¬chkR (Prod.fst y4) (Prod.snd y4) = (0 : Int) → ((0 : Int) < (↑(List.length (listL (Prod.fst y4) (Prod.snd y4))) : Int) → false = true) ∧ (¬(0 : Int) < (↑(List.length (listL
(Prod.fst y4) (Prod.snd y4))) : Int) → ∃ (y8 : Int × List Int), (n = Prod.fst y8 ∧ (List.length l = List.length (Prod.snd y8) ∧ SC.rows (eI IntKind.i64) (1 : Nat) (1 : Nat) true l = SC.rows (eI
IntKind.i64) (1 : Nat) (1 : Nat) true (Prod.snd y8)) ∧ True) ∧ List.length (Prod.snd y8) ≤ (10000 : Nat) ∧ ∃ (y9 : Int × List Int), (n = Prod.fst y9 ∧ (List.length (ofL (Prod.fst y8) (Prod.snd y8)) =
List.length (Prod.snd y9) ∧ SC.rows eB (1 : Nat) (1 : Nat) true (ofL (Prod.fst y8) (Prod.snd y8)) = SC.rows eB (1 : Nat) (1 : Nat) true (Prod.snd y9)) ∧ True) ∧ ((∀ (y10 : Int), y10 ∈ Prod.snd y9 → (0
: Int) ≤ y10 ∧ y10 < (256 : Int)) ∧ List.length (Prod.snd y9) ≤ (1000 : Nat)) ∧ (¬ofE (Prod.fst y8) (Prod.snd y8) = (0 : Int) → ((↑(List.length (ofL (Prod.fst y8) (Prod.snd y8))) : Int) = (0 : Int) ↔
true = true)) ∧ (¬¬ofE (Prod.fst y8) (Prod.snd y8) = (0 : Int) → SameCode (loopBody Try.prog (5 : Nat) (0 : Nat)) (loopBody Try.prog (5 : Nat) (0 : Nat)) ∧ ∃ (y10 : LInv.ι LA), ((∀ (y11 : Int), y11 ∈
Prod.fst (Prod.snd (Prod.fst y10)) → hasE (Prod.fst (Prod.fst y10)) (Prod.snd (Prod.snd (Prod.fst y10))) y11 = (0 : Int) ∧ hasV (Prod.fst (Prod.fst y10)) (Prod.snd (Prod.snd (Prod.fst y10))) y11 =
true) ∧ (∀ (y11 : Int), y11 ∈ Prod.snd (Prod.snd (Prod.fst y10)) → (0 : Int) ≤ y11 ∧ y11 < (256 : Int)) ∧ List.length (Prod.snd (Prod.snd (Prod.fst y10))) ≤ (1000 : Nat) ∧ Prod.snd y10 ≤ List.length
(Prod.fst (Prod.snd (Prod.fst y10))) ∧ List.length (Prod.fst (Prod.snd (Prod.fst y10))) ≤ (100 : Nat)) ∧ ((n = Prod.fst (Prod.fst y10) ∧ (List.length l = List.length (Prod.fst (Prod.snd (Prod.fst
y10))) ∧ SC.rows (eI IntKind.i64) (1 : Nat) (1 : Nat) true l = SC.rows (eI IntKind.i64) (1 : Nat) (1 : Nat) true (Prod.fst (Prod.snd (Prod.fst y10)))) ∧ True ∧ True ∧ True ∧ True ∧ True ∧ true = true
∧ True ∧ True ∧ True ∧ True ∧ (List.length (ofL (Prod.fst y8) (Prod.snd y8)) = List.length (Prod.snd (Prod.snd (Prod.fst y10))) ∧ SC.rows eB (1 : Nat) (1 : Nat) true (ofL (Prod.fst y8) (Prod.snd y8))
= SC.rows eB (1 : Nat) (1 : Nat) true (Prod.snd (Prod.snd (Prod.fst y10)))) ∧ True ∧ (List.length (listL (Prod.fst y9) (Prod.snd y9)) = List.length (listL (Prod.fst (Prod.fst y10)) (Prod.snd (Prod.snd
(Prod.fst y10)))) ∧ SC.rows (eI IntKind.i64) (1 : Nat) (1 : Nat) true (listL (Prod.fst y9) (Prod.snd y9)) = SC.rows (eI IntKind.i64) (1 : Nat) (1 : Nat) true (listL (Prod.fst (Prod.fst y10)) (Prod.snd
(Prod.snd (Prod.fst y10))))) ∧ chkR (Prod.fst y9) (Prod.snd y9) = chkR (Prod.fst (Prod.fst y10)) (Prod.snd (Prod.snd (Prod.fst y10))) ∧ (0 : Int) = (↑(Prod.snd y10) : Int) ∧ True ∧ True ∧ True ∧ True
∧ True ∧ True ∧ True ∧ True ∧ True ∧ True ∧ True ∧ True ∧ True ∧ True ∧ True ∧ True ∧ True ∧ True ∧ True ∧ True ∧ True ∧ True ∧ True ∧ True ∧ True ∧ True ∧ True ∧ True ∧ True ∧ True ∧ True ∧ True ∧
True ∧ True ∧ True ∧ True ∧ True ∧ True ∧ True ∧ True ∧ True ∧ True ∧ True ∧ True ∧ True ∧ True ∧ True ∧ True ∧ True ∧ True ∧ True ∧ True ∧ True ∧ True ∧ True ∧ True ∧ True ∧ True ∧ True ∧ True ∧ True
∧ True ∧ True ∧ True ∧ True ∧ True ∧ True ∧ True ∧ True ∧ True ∧ True ∧ True ∧ True ∧ True ∧ True ∧ True ∧ True ∧ True ∧ True ∧ True ∧ True ∧ True ∧ True ∧ True ∧ True ∧ True ∧ True ∧ True ∧ True ∧
True ∧ True ∧ True ∧ True ∧ True ∧ True ∧ True ∧ True ∧ True ∧ True ∧ True ∧ True ∧ True ∧ True ∧ True ∧ True ∧ True ∧ True ∧ True ∧ True ∧ True ∧ True ∧ True ∧ True ∧ True ∧ True ∧ True ∧ True ∧ True
∧ True ∧ True ∧ True ∧ True ∧ True ∧ True ∧ True ∧ True ∧ True ∧ True ∧ True ∧ True ∧ True ∧ True ∧ True ∧ True ∧ True ∧ True ∧ True ∧ True ∧ True ∧ True ∧ True ∧ True ∧ True) ∧ True) ∧ (∀ (y11 :
LInv.ι LA), True) ∧ (∀ (y11 : LInv.Ω LA), LInv.PE LA y10 y11 → SameCode (loopBody Try.prog (5 : Nat) (1 : Nat)) (loopBody Try.prog (5 : Nat) (1 : Nat)) ∧ ∃ (y12 : LInv.ι LB), ((∀ (y13 : Int), y13 ∈
Prod.snd (Prod.snd (Prod.fst y12)) → y13 ∈ Prod.fst (Prod.snd (Prod.fst y12))) ∧ (∀ (y13 : Nat) (y14 y15 : Int), (Prod.snd (Prod.snd (Prod.fst y12)))[y13]? = some y14 → (Prod.snd (Prod.snd (Prod.fst
y12)))[y13 + (1 : Nat)]? = some y15 → y14 < y15) ∧ Prod.snd y12 ≤ List.length (Prod.snd (Prod.snd (Prod.fst y12))) ∧ List.length (Prod.snd (Prod.snd (Prod.fst y12))) ≤ (100 : Nat) ∧ List.length
(Prod.fst (Prod.snd (Prod.fst y12))) ≤ (100 : Nat)) ∧ ((True ∧ (List.length (Prod.fst (Prod.snd y11)) = List.length (Prod.fst (Prod.snd (Prod.fst y12))) ∧ SC.rows (eI IntKind.i64) (1 : Nat) (1 : Nat)
true (Prod.fst (Prod.snd y11)) = SC.rows (eI IntKind.i64) (1 : Nat) (1 : Nat) true (Prod.fst (Prod.snd (Prod.fst y12)))) ∧ True ∧ True ∧ True ∧ True ∧ True ∧ true = true ∧ True ∧ True ∧ True ∧ True ∧
True ∧ True ∧ (List.length (listL (Prod.fst y11) (Prod.snd (Prod.snd y11))) = List.length (Prod.snd (Prod.snd (Prod.fst y12))) ∧ SC.rows (eI IntKind.i64) (1 : Nat) (1 : Nat) true (listL (Prod.fst y11)
(Prod.snd (Prod.snd y11))) = SC.rows (eI IntKind.i64) (1 : Nat) (1 : Nat) true (Prod.snd (Prod.snd (Prod.fst y12)))) ∧ chkR (Prod.fst y11) (Prod.snd (Prod.snd y11)) = Prod.fst (Prod.fst y12) ∧ True ∧
True ∧ True ∧ (0 : Int) = (↑(Prod.snd y12) : Int) ∧ True ∧ True ∧ True ∧ True ∧ True ∧ True ∧ True ∧ True ∧ True ∧ True ∧ True ∧ True ∧ True ∧ True ∧ True ∧ True ∧ True ∧ True ∧ True ∧ True ∧ True ∧
True ∧ True ∧ True ∧ True ∧ True ∧ True ∧ True ∧ True ∧ True ∧ True ∧ True ∧ True ∧ True ∧ True ∧ True ∧ True ∧ True ∧ True ∧ True ∧ True ∧ True ∧ True ∧ True ∧ True ∧ True ∧ True ∧ True ∧ True ∧ True
∧ True ∧ True ∧ True ∧ True ∧ True ∧ True ∧ True ∧ True ∧ True ∧ True ∧ True ∧ True ∧ True ∧ True ∧ True ∧ True ∧ True ∧ True ∧ True ∧ True ∧ True ∧ True ∧ True ∧ True ∧ True ∧ True ∧ True ∧ True ∧
True ∧ True ∧ True ∧ True ∧ True ∧ True ∧ True ∧ True ∧ True ∧ True ∧ True ∧ True ∧ True ∧ True ∧ True ∧ True ∧ True ∧ True ∧ True ∧ True ∧ True ∧ True ∧ True ∧ True ∧ True ∧ True ∧ True ∧ True ∧ True
∧ True ∧ True ∧ True ∧ True ∧ True ∧ True ∧ True ∧ True ∧ True ∧ True ∧ True ∧ True ∧ True ∧ True ∧ True ∧ True ∧ True ∧ True ∧ True ∧ True ∧ True ∧ True ∧ True ∧ True ∧ True ∧ True ∧ True ∧ True ∧
True ∧ True ∧ True ∧ True ∧ True) ∧ True) ∧ (∀ (y13 : LInv.ι LB), True) ∧ (∀ (y13 : LInv.Ω LB), LInv.PE LB y12 y13 → (y13 = (0 : Int) ↔ true = true)) ∧ True) ∧ True))) ∧ (¬¬chkR (Prod.fst y4)
(Prod.snd y4) = (0 : Int) → ∃ (y8 : Int × List Int), (n = Prod.fst y8 ∧ (List.length l = List.length (Prod.snd y8) ∧ SC.rows (eI IntKind.i64) (1 : Nat) (1 : Nat) true l = SC.rows (eI IntKind.i64) (1 :
Nat) (1 : Nat) true (Prod.snd y8)) ∧ True) ∧ List.length (Prod.snd y8) ≤ (10000 : Nat) ∧ ∃ (y9 : Int × List Int), (n = Prod.fst y9 ∧ (List.length (ofL (Prod.fst y8) (Prod.snd y8)) = List.length
(Prod.snd y9) ∧ SC.rows eB (1 : Nat) (1 : Nat) true (ofL (Prod.fst y8) (Prod.snd y8)) = SC.rows eB (1 : Nat) (1 : Nat) true (Prod.snd y9)) ∧ True) ∧ ((∀ (y10 : Int), y10 ∈ Prod.snd y9 → (0 : Int) ≤
y10 ∧ y10 < (256 : Int)) ∧ List.length (Prod.snd y9) ≤ (1000 : Nat)) ∧ (¬ofE (Prod.fst y8) (Prod.snd y8) = (0 : Int) → ((↑(List.length (ofL (Prod.fst y8) (Prod.snd y8))) : Int) = (0 : Int) ↔ true =
true)) ∧ (¬¬ofE (Prod.fst y8) (Prod.snd y8) = (0 : Int) → SameCode (loopBody Try.prog (5 : Nat) (0 : Nat)) (loopBody Try.prog (5 : Nat) (0 : Nat)) ∧ ∃ (y10 : LInv.ι LA), ((∀ (y11 : Int), y11 ∈
Prod.fst (Prod.snd (Prod.fst y10)) → hasE (Prod.fst (Prod.fst y10)) (Prod.snd (Prod.snd (Prod.fst y10))) y11 = (0 : Int) ∧ hasV (Prod.fst (Prod.fst y10)) (Prod.snd (Prod.snd (Prod.fst y10))) y11 =
true) ∧ (∀ (y11 : Int), y11 ∈ Prod.snd (Prod.snd (Prod.fst y10)) → (0 : Int) ≤ y11 ∧ y11 < (256 : Int)) ∧ List.length (Prod.snd (Prod.snd (Prod.fst y10))) ≤ (1000 : Nat) ∧ Prod.snd y10 ≤ List.length
(Prod.fst (Prod.snd (Prod.fst y10))) ∧ List.length (Prod.fst (Prod.snd (Prod.fst y10))) ≤ (100 : Nat)) ∧ ((n = Prod.fst (Prod.fst y10) ∧ (List.length l = List.length (Prod.fst (Prod.snd (Prod.fst
y10))) ∧ SC.rows (eI IntKind.i64) (1 : Nat) (1 : Nat) true l = SC.rows (eI IntKind.i64) (1 : Nat) (1 : Nat) true (Prod.fst (Prod.snd (Prod.fst y10)))) ∧ True ∧ True ∧ True ∧ True ∧ True ∧ true = true
∧ True ∧ True ∧ True ∧ True ∧ (List.length (ofL (Prod.fst y8) (Prod.snd y8)) = List.length (Prod.snd (Prod.snd (Prod.fst y10))) ∧ SC.rows eB (1 : Nat) (1 : Nat) true (ofL (Prod.fst y8) (Prod.snd y8))
= SC.rows eB (1 : Nat) (1 : Nat) true (Prod.snd (Prod.snd (Prod.fst y10)))) ∧ True ∧ (List.length (listL (Prod.fst y9) (Prod.snd y9)) = List.length (listL (Prod.fst (Prod.fst y10)) (Prod.snd (Prod.snd
(Prod.fst y10)))) ∧ SC.rows (eI IntKind.i64) (1 : Nat) (1 : Nat) true (listL (Prod.fst y9) (Prod.snd y9)) = SC.rows (eI IntKind.i64) (1 : Nat) (1 : Nat) true (listL (Prod.fst (Prod.fst y10)) (Prod.snd
(Prod.snd (Prod.fst y10))))) ∧ chkR (Prod.fst y9) (Prod.snd y9) = chkR (Prod.fst (Prod.fst y10)) (Prod.snd (Prod.snd (Prod.fst y10))) ∧ (0 : Int) = (↑(Prod.snd y10) : Int) ∧ True ∧ True ∧ True ∧ True
∧ True ∧ True ∧ True ∧ True ∧ True ∧ True ∧ True ∧ True ∧ True ∧ True ∧ True ∧ True ∧ True ∧ True ∧ True ∧ True ∧ True ∧ True ∧ True ∧ True ∧ True ∧ True ∧ True ∧ True ∧ True ∧ True ∧ True ∧ True ∧
True ∧ True ∧ True ∧ True ∧ True ∧ True ∧ True ∧ True ∧ True ∧ True ∧ True ∧ True ∧ True ∧ True ∧ True ∧ True ∧ True ∧ True ∧ True ∧ True ∧ True ∧ True ∧ True ∧ True ∧ True ∧ True ∧ True ∧ True ∧ True
∧ True ∧ True ∧ True ∧ True ∧ True ∧ True ∧ True ∧ True ∧ True ∧ True ∧ True ∧ True ∧ True ∧ True ∧ True ∧ True ∧ True ∧ True ∧ True ∧ True ∧ True ∧ True ∧ True ∧ True ∧ True ∧ True ∧ True ∧ True ∧
True ∧ True ∧ True ∧ True ∧ True ∧ True ∧ True ∧ True ∧ True ∧ True ∧ True ∧ True ∧ True ∧ True ∧ True ∧ True ∧ True ∧ True ∧ True ∧ True ∧ True ∧ True ∧ True ∧ True ∧ True ∧ True ∧ True ∧ True ∧ True
∧ True ∧ True ∧ True ∧ True ∧ True ∧ True ∧ True ∧ True ∧ True ∧ True ∧ True ∧ True ∧ True ∧ True ∧ True ∧ True ∧ True ∧ True ∧ True ∧ True ∧ True ∧ True ∧ True ∧ True ∧ True) ∧ True) ∧ (∀ (y11 :
LInv.ι LA), True) ∧ (∀ (y11 : LInv.Ω LA), LInv.PE LA y10 y11 → SameCode (loopBody Try.prog (5 : Nat) (1 : Nat)) (loopBody Try.prog (5 : Nat) (1 : Nat)) ∧ ∃ (y12 : LInv.ι LB), ((∀ (y13 : Int), y13 ∈
Prod.snd (Prod.snd (Prod.fst y12)) → y13 ∈ Prod.fst (Prod.snd (Prod.fst y12))) ∧ (∀ (y13 : Nat) (y14 y15 : Int), (Prod.snd (Prod.snd (Prod.fst y12)))[y13]? = some y14 → (Prod.snd (Prod.snd (Prod.fst
y12)))[y13 + (1 : Nat)]? = some y15 → y14 < y15) ∧ Prod.snd y12 ≤ List.length (Prod.snd (Prod.snd (Prod.fst y12))) ∧ List.length (Prod.snd (Prod.snd (Prod.fst y12))) ≤ (100 : Nat) ∧ List.length
(Prod.fst (Prod.snd (Prod.fst y12))) ≤ (100 : Nat)) ∧ ((True ∧ (List.length (Prod.fst (Prod.snd y11)) = List.length (Prod.fst (Prod.snd (Prod.fst y12))) ∧ SC.rows (eI IntKind.i64) (1 : Nat) (1 : Nat)
true (Prod.fst (Prod.snd y11)) = SC.rows (eI IntKind.i64) (1 : Nat) (1 : Nat) true (Prod.fst (Prod.snd (Prod.fst y12)))) ∧ True ∧ True ∧ True ∧ True ∧ True ∧ true = true ∧ True ∧ True ∧ True ∧ True ∧
True ∧ True ∧ (List.length (listL (Prod.fst y11) (Prod.snd (Prod.snd y11))) = List.length (Prod.snd (Prod.snd (Prod.fst y12))) ∧ SC.rows (eI IntKind.i64) (1 : Nat) (1 : Nat) true (listL (Prod.fst y11)
(Prod.snd (Prod.snd y11))) = SC.rows (eI IntKind.i64) (1 : Nat) (1 : Nat) true (Prod.snd (Prod.snd (Prod.fst y12)))) ∧ chkR (Prod.fst y11) (Prod.snd (Prod.snd y11)) = Prod.fst (Prod.fst y12) ∧ True ∧
True ∧ True ∧ (0 : Int) = (↑(Prod.snd y12) : Int) ∧ True ∧ True ∧ True ∧ True ∧ True ∧ True ∧ True ∧ True ∧ True ∧ True ∧ True ∧ True ∧ True ∧ True ∧ True ∧ True ∧ True ∧ True ∧ True ∧ True ∧ True ∧
True ∧ True ∧ True ∧ True ∧ True ∧ True ∧ True ∧ True ∧ True ∧ True ∧ True ∧ True ∧ True ∧ True ∧ True ∧ True ∧ True ∧ True ∧ True ∧ True ∧ True ∧ True ∧ True ∧ True ∧ True ∧ True ∧ True ∧ True ∧ True
∧ True ∧ True ∧ True ∧ True ∧ True ∧ True ∧ True ∧ True ∧ True ∧ True ∧ True ∧ True ∧ True ∧ True ∧ True ∧ True ∧ True ∧ True ∧ True ∧ True ∧ True ∧ True ∧ True ∧ True ∧ True ∧ True ∧ True ∧ True ∧
True ∧ True ∧ True ∧ True ∧ True ∧ True ∧ True ∧ True ∧ True ∧ True ∧ True ∧ True ∧ True ∧ True ∧ True ∧ True ∧ True ∧ True ∧ True ∧ True ∧ True ∧ True ∧ True ∧ True ∧ True ∧ True ∧ True ∧ True ∧ True
∧ True ∧ True ∧ True ∧ True ∧ True ∧ True ∧ True ∧ True ∧ True ∧ True ∧ True ∧ True ∧ True ∧ True ∧ True ∧ True ∧ True ∧ True ∧ True ∧ True ∧ True ∧ True ∧ True ∧ True ∧ True ∧ True ∧ True ∧ True ∧
True ∧ True ∧ True ∧ True ∧ True) ∧ True) ∧ (∀ (y13 : LInv.ι LB), True) ∧ (∀ (y13 : LInv.Ω LB), LInv.PE LB y12 y13 → (y13 = (0 : Int) ↔ true = true)) ∧ True) ∧ True))))) ∧ (¬chkR (Prod.fst y4)
(Prod.snd y4) = (0 : Int) → (¬chkR (Prod.fst y4) (Prod.snd y4) = (0 : Int) → ((0 : Int) < (↑(List.length (listL (Prod.fst y4) (Prod.snd y4))) : Int) → false = true) ∧ (¬(0 : Int) < (↑(List.length
(listL (Prod.fst y4) (Prod.snd y4))) : Int) → ∃ (y6 : Int × List Int), (n = Prod.fst y6 ∧ (List.length l = List.length (Prod.snd y6) ∧ SC.rows (eI IntKind.i64) (1 : Nat) (1 : Nat) true l = SC.rows (eI
IntKind.i64) (1 : Nat) (1 : Nat) true (Prod.snd y6)) ∧ True) ∧ List.length (Prod.snd y6) ≤ (10000 : Nat) ∧ ∃ (y7 : Int × List Int), (n = Prod.fst y7 ∧ (List.length (ofL (Prod.fst y6) (Prod.snd y6)) =
List.length (Prod.snd y7) ∧ SC.rows eB (1 : Nat) (1 : Nat) true (ofL (Prod.fst y6) (Prod.snd y6)) = SC.rows eB (1 : Nat) (1 : Nat) true (Prod.snd y7)) ∧ True) ∧ ((∀ (y8 : Int), y8 ∈ Prod.snd y7 → (0 :
Int) ≤ y8 ∧ y8 < (256 : Int)) ∧ List.length (Prod.snd y7) ≤ (1000 : Nat)) ∧ (¬ofE (Prod.fst y6) (Prod.snd y6) = (0 : Int) → ((↑(List.length (ofL (Prod.fst y6) (Prod.snd y6))) : Int) = (0 : Int) ↔ true
= true)) ∧ (¬¬ofE (Prod.fst y6) (Prod.snd y6) = (0 : Int) → SameCode (loopBody Try.prog (5 : Nat) (0 : Nat)) (loopBody Try.prog (5 : Nat) (0 : Nat)) ∧ ∃ (y8 : LInv.ι LA), ((∀ (y9 : Int), y9 ∈ Prod.fst
(Prod.snd (Prod.fst y8)) → hasE (Prod.fst (Prod.fst y8)) (Prod.snd (Prod.snd (Prod.fst y8))) y9 = (0 : Int) ∧ hasV (Prod.fst (Prod.fst y8)) (Prod.snd (Prod.snd (Prod.fst y8))) y9 = true) ∧ (∀ (y9 :
Int), y9 ∈ Prod.snd (Prod.snd (Prod.fst y8)) → (0 : Int) ≤ y9 ∧ y9 < (256 : Int)) ∧ List.length (Prod.snd (Prod.snd (Prod.fst y8))) ≤ (1000 : Nat) ∧ Prod.snd y8 ≤ List.length (Prod.fst (Prod.snd
(Prod.fst y8))) ∧ List.length (Prod.fst (Prod.snd (Prod.fst y8))) ≤ (100 : Nat)) ∧ ((n = Prod.fst (Prod.fst y8) ∧ (List.length l = List.length (Prod.fst (Prod.snd (Prod.fst y8))) ∧ SC.rows (eI
IntKind.i64) (1 : Nat) (1 : Nat) true l = SC.rows (eI IntKind.i64) (1 : Nat) (1 : Nat) true (Prod.fst (Prod.snd (Prod.fst y8)))) ∧ True ∧ True ∧ True ∧ True ∧ True ∧ true = true ∧ True ∧ True ∧ True ∧
True ∧ (List.length (ofL (Prod.fst y6) (Prod.snd y6)) = List.length (Prod.snd (Prod.snd (Prod.fst y8))) ∧ SC.rows eB (1 : Nat) (1 : Nat) true (ofL (Prod.fst y6) (Prod.snd y6)) = SC.rows eB (1 : Nat)
(1 : Nat) true (Prod.snd (Prod.snd (Prod.fst y8)))) ∧ True ∧ (List.length (listL (Prod.fst y7) (Prod.snd y7)) = List.length (listL (Prod.fst (Prod.fst y8)) (Prod.snd (Prod.snd (Prod.fst y8)))) ∧
SC.rows (eI IntKind.i64) (1 : Nat) (1 : Nat) true (listL (Prod.fst y7) (Prod.snd y7)) = SC.rows (eI IntKind.i64) (1 : Nat) (1 : Nat) true (listL (Prod.fst (Prod.fst y8)) (Prod.snd (Prod.snd (Prod.fst
y8))))) ∧ chkR (Prod.fst y7) (Prod.snd y7) = chkR (Prod.fst (Prod.fst y8)) (Prod.snd (Prod.snd (Prod.fst y8))) ∧ (0 : Int) = (↑(Prod.snd y8) : Int) ∧ True ∧ True ∧ True ∧ True ∧ True ∧ True ∧ True ∧
True ∧ True ∧ True ∧ True ∧ True ∧ True ∧ True ∧ True ∧ True ∧ True ∧ True ∧ True ∧ True ∧ True ∧ True ∧ True ∧ True ∧ True ∧ True ∧ True ∧ True ∧ True ∧ True ∧ True ∧ True ∧ True ∧ True ∧ True ∧ True
∧ True ∧ True ∧ True ∧ True ∧ True ∧ True ∧ True ∧ True ∧ True ∧ True ∧ True ∧ True ∧ True ∧ True ∧ True ∧ True ∧ True ∧ True ∧ True ∧ True ∧ True ∧ True ∧ True ∧ True ∧ True ∧ True ∧ True ∧ True ∧
True ∧ True ∧ True ∧ True ∧ True ∧ True ∧ True ∧ True ∧ True ∧ True ∧ True ∧ True ∧ True ∧ True ∧ True ∧ True ∧ True ∧ True ∧ True ∧ True ∧ True ∧ True ∧ True ∧ True ∧ True ∧ True ∧ True ∧ True ∧ True
∧ True ∧ True ∧ True ∧ True ∧ True ∧ True ∧ True ∧ True ∧ True ∧ True ∧ True ∧ True ∧ True ∧ True ∧ True ∧ True ∧ True ∧ True ∧ True ∧ True ∧ True ∧ True ∧ True ∧ True ∧ True ∧ True ∧ True ∧ True ∧
True ∧ True ∧ True ∧ True ∧ True ∧ True ∧ True ∧ True ∧ True ∧ True ∧ True ∧ True ∧ True ∧ True ∧ True ∧ True ∧ True ∧ True ∧ True ∧ True ∧ True ∧ True) ∧ True) ∧ (∀ (y9 : LInv.ι LA), True) ∧ (∀ (y9 :
LInv.Ω LA), LInv.PE LA y8 y9 → SameCode (loopBody Try.prog (5 : Nat) (1 : Nat)) (loopBody Try.prog (5 : Nat) (1 : Nat)) ∧ ∃ (y10 : LInv.ι LB), ((∀ (y11 : Int), y11 ∈ Prod.snd (Prod.snd (Prod.fst y10))
→ y11 ∈ Prod.fst (Prod.snd (Prod.fst y10))) ∧ (∀ (y11 : Nat) (y12 y13 : Int), (Prod.snd (Prod.snd (Prod.fst y10)))[y11]? = some y12 → (Prod.snd (Prod.snd (Prod.fst y10)))[y11 + (1 : Nat)]? = some y13
→ y12 < y13) ∧ Prod.snd y10 ≤ List.length (Prod.snd (Prod.snd (Prod.fst y10))) ∧ List.length (Prod.snd (Prod.snd (Prod.fst y10))) ≤ (100 : Nat) ∧ List.length (Prod.fst (Prod.snd (Prod.fst y10))) ≤
(100 : Nat)) ∧ ((True ∧ (List.length (Prod.fst (Prod.snd y9)) = List.length (Prod.fst (Prod.snd (Prod.fst y10))) ∧ SC.rows (eI IntKind.i64) (1 : Nat) (1 : Nat) true (Prod.fst (Prod.snd y9)) = SC.rows
(eI IntKind.i64) (1 : Nat) (1 : Nat) true (Prod.fst (Prod.snd (Prod.fst y10)))) ∧ True ∧ True ∧ True ∧ True ∧ True ∧ true = true ∧ True ∧ True ∧ True ∧ True ∧ True ∧ True ∧ (List.length (listL
(Prod.fst y9) (Prod.snd (Prod.snd y9))) = List.length (Prod.snd (Prod.snd (Prod.fst y10))) ∧ SC.rows (eI IntKind.i64) (1 : Nat) (1 : Nat) true (listL (Prod.fst y9) (Prod.snd (Prod.snd y9))) = SC.rows
(eI IntKind.i64) (1 : Nat) (1 : Nat) true (Prod.snd (Prod.snd (Prod.fst y10)))) ∧ chkR (Prod.fst y9) (Prod.snd (Prod.snd y9)) = Prod.fst (Prod.fst y10) ∧ True ∧ True ∧ True ∧ (0 : Int) = (↑(Prod.snd
y10) : Int) ∧ True ∧ True ∧ True ∧ True ∧ True ∧ True ∧ True ∧ True ∧ True ∧ True ∧ True ∧ True ∧ True ∧ True ∧ True ∧ True ∧ True ∧ True ∧ True ∧ True ∧ True ∧ True ∧ True ∧ True ∧ True ∧ True ∧ True
∧ True ∧ True ∧ True ∧ True ∧ True ∧ True ∧ True ∧ True ∧ True ∧ True ∧ True ∧ True ∧ True ∧ True ∧ True ∧ True ∧ True ∧ True ∧ True ∧ True ∧ True ∧ True ∧ True ∧ True ∧ True ∧ True ∧ True ∧ True ∧
True ∧ True ∧ True ∧ True ∧ True ∧ True ∧ True ∧ True ∧ True ∧ True ∧ True ∧ True ∧ True ∧ True ∧ True ∧ True ∧ True ∧ True ∧ True ∧ True ∧ True ∧ True ∧ True ∧ True ∧ True ∧ True ∧ True ∧ True ∧ True
∧ True ∧ True ∧ True ∧ True ∧ True ∧ True ∧ True ∧ True ∧ True ∧ True ∧ True ∧ True ∧ True ∧ True ∧ True ∧ True ∧ True ∧ True ∧ True ∧ True ∧ True ∧ True ∧ True ∧ True ∧ True ∧ True ∧ True ∧ True ∧
True ∧ True ∧ True ∧ True ∧ True ∧ True ∧ True ∧ True ∧ True ∧ True ∧ True ∧ True ∧ True ∧ True ∧ True ∧ True ∧ True ∧ True ∧ True ∧ True ∧ True ∧ True ∧ True ∧ True ∧ True ∧ True ∧ True ∧ True) ∧
True) ∧ (∀ (y11 : LInv.ι LB), True) ∧ (∀ (y11 : LInv.Ω LB), LInv.PE LB y10 y11 → (y11 = (0 : Int) ↔ true = true)) ∧ True) ∧ True))) ∧ (¬¬chkR (Prod.fst y4) (Prod.snd y4) = (0 : Int) → ∃ (y6 : Int ×
List Int), (n = Prod.fst y6 ∧ (List.length l = List.length (Prod.snd y6) ∧ SC.rows (eI IntKind.i64) (1 : Nat) (1 : Nat) true l = SC.rows (eI IntKind.i64) (1 : Nat) (1 : Nat) true (Prod.snd y6)) ∧
True) ∧ List.length (Prod.snd y6) ≤ (10000 : Nat) ∧ ∃ (y7 : Int × List Int), (n = Prod.fst y7 ∧ (List.length (ofL (Prod.fst y6) (Prod.snd y6)) = List.length (Prod.snd y7) ∧ SC.rows eB (1 : Nat) (1 :
Nat) true (ofL (Prod.fst y6) (Prod.snd y6)) = SC.rows eB (1 : Nat) (1 : Nat) true (Prod.snd y7)) ∧ True) ∧ ((∀ (y8 : Int), y8 ∈ Prod.snd y7 → (0 : Int) ≤ y8 ∧ y8 < (256 : Int)) ∧ List.length (Prod.snd
y7) ≤ (1000 : Nat)) ∧ (¬ofE (Prod.fst y6) (Prod.snd y6) = (0 : Int) → ((↑(List.length (ofL (Prod.fst y6) (Prod.snd y6))) : Int) = (0 : Int) ↔ true = true)) ∧ (¬¬ofE (Prod.fst y6) (Prod.snd y6) = (0 :
Int) → SameCode (loopBody Try.prog (5 : Nat) (0 : Nat)) (loopBody Try.prog (5 : Nat) (0 : Nat)) ∧ ∃ (y8 : LInv.ι LA), ((∀ (y9 : Int), y9 ∈ Prod.fst (Prod.snd (Prod.fst y8)) → hasE (Prod.fst (Prod.fst
y8)) (Prod.snd (Prod.snd (Prod.fst y8))) y9 = (0 : Int) ∧ hasV (Prod.fst (Prod.fst y8)) (Prod.snd (Prod.snd (Prod.fst y8))) y9 = true) ∧ (∀ (y9 : Int), y9 ∈ Prod.snd (Prod.snd (Prod.fst y8)) → (0 :
Int) ≤ y9 ∧ y9 < (256 : Int)) ∧ List.length (Prod.snd (Prod.snd (Prod.fst y8))) ≤ (1000 : Nat) ∧ Prod.snd y8 ≤ List.length (Prod.fst (Prod.snd (Prod.fst y8))) ∧ List.length (Prod.fst (Prod.snd
(Prod.fst y8))) ≤ (100 : Nat)) ∧ ((n = Prod.fst (Prod.fst y8) ∧ (List.length l = List.length (Prod.fst (Prod.snd (Prod.fst y8))) ∧ SC.rows (eI IntKind.i64) (1 : Nat) (1 : Nat) true l = SC.rows (eI
IntKind.i64) (1 : Nat) (1 : Nat) true (Prod.fst (Prod.snd (Prod.fst y8)))) ∧ True ∧ True ∧ True ∧ True ∧ True ∧ true = true ∧ True ∧ True ∧ True ∧ True ∧ (List.length (ofL (Prod.fst y6) (Prod.snd y6))
= List.length (Prod.snd (Prod.snd (Prod.fst y8))) ∧ SC.rows eB (1 : Nat) (1 : Nat) true (ofL (Prod.fst y6) (Prod.snd y6)) = SC.rows eB (1 : Nat) (1 : Nat) true (Prod.snd (Prod.snd (Prod.fst y8)))) ∧
True ∧ (List.length (listL (Prod.fst y7) (Prod.snd y7)) = List.length (listL (Prod.fst (Prod.fst y8)) (Prod.snd (Prod.snd (Prod.fst y8)))) ∧ SC.rows (eI IntKind.i64) (1 : Nat) (1 : Nat) true (listL
(Prod.fst y7) (Prod.snd y7)) = SC.rows (eI IntKind.i64) (1 : Nat) (1 : Nat) true (listL (Prod.fst (Prod.fst y8)) (Prod.snd (Prod.snd (Prod.fst y8))))) ∧ chkR (Prod.fst y7) (Prod.snd y7) = chkR
(Prod.fst (Prod.fst y8)) (Prod.snd (Prod.snd (Prod.fst y8))) ∧ (0 : Int) = (↑(Prod.snd y8) : Int) ∧ True ∧ True ∧ True ∧ True ∧ True ∧ True ∧ True ∧ True ∧ True ∧ True ∧ True ∧ True ∧ True ∧ True ∧
True ∧ True ∧ True ∧ True ∧ True ∧ True ∧ True ∧ True ∧ True ∧ True ∧ True ∧ True ∧ True ∧ True ∧ True ∧ True ∧ True ∧ True ∧ True ∧ True ∧ True ∧ True ∧ True ∧ True ∧ True ∧ True ∧ True ∧ True ∧ True
∧ True ∧ True ∧ True ∧ True ∧ True ∧ True ∧ True ∧ True ∧ True ∧ True ∧ True ∧ True ∧ True ∧ True ∧ True ∧ True ∧ True ∧ True ∧ True ∧ True ∧ True ∧ True ∧ True ∧ True ∧ True ∧ True ∧ True ∧ True ∧
True ∧ True ∧ True ∧ True ∧ True ∧ True ∧ True ∧ True ∧ True ∧ True ∧ True ∧ True ∧ True ∧ True ∧ True ∧ True ∧ True ∧ True ∧ True ∧ True ∧ True ∧ True ∧ True ∧ True ∧ True ∧ True ∧ True ∧ True ∧ True
∧ True ∧ True ∧ True ∧ True ∧ True ∧ True ∧ True ∧ True ∧ True ∧ True ∧ True ∧ True ∧ True ∧ True ∧ True ∧ True ∧ True ∧ True ∧ True ∧ True ∧ True ∧ True ∧ True ∧ True ∧ True ∧ True ∧ True ∧ True ∧
True ∧ True ∧ True ∧ True ∧ True ∧ True ∧ True ∧ True ∧ True ∧ True ∧ True ∧ True ∧ True ∧ True ∧ True) ∧ True) ∧ (∀ (y9 : LInv.ι LA), True) ∧ (∀ (y9 : LInv.Ω LA), LInv.PE LA y8 y9 → SameCode
(loopBody Try.prog (5 : Nat) (1 : Nat)) (loopBody Try.prog (5 : Nat) (1 : Nat)) ∧ ∃ (y10 : LInv.ι LB), ((∀ (y11 : Int), y11 ∈ Prod.snd (Prod.snd (Prod.fst y10)) → y11 ∈ Prod.fst (Prod.snd (Prod.fst
y10))) ∧ (∀ (y11 : Nat) (y12 y13 : Int), (Prod.snd (Prod.snd (Prod.fst y10)))[y11]? = some y12 → (Prod.snd (Prod.snd (Prod.fst y10)))[y11 + (1 : Nat)]? = some y13 → y12 < y13) ∧ Prod.snd y10 ≤
List.length (Prod.snd (Prod.snd (Prod.fst y10))) ∧ List.length (Prod.snd (Prod.snd (Prod.fst y10))) ≤ (100 : Nat) ∧ List.length (Prod.fst (Prod.snd (Prod.fst y10))) ≤ (100 : Nat)) ∧ ((True ∧
(List.length (Prod.fst (Prod.snd y9)) = List.length (Prod.fst (Prod.snd (Prod.fst y10))) ∧ SC.rows (eI IntKind.i64) (1 : Nat) (1 : Nat) true (Prod.fst (Prod.snd y9)) = SC.rows (eI IntKind.i64) (1 :
Nat) (1 : Nat) true (Prod.fst (Prod.snd (Prod.fst y10)))) ∧ True ∧ True ∧ True ∧ True ∧ True ∧ true = true ∧ True ∧ True ∧ True ∧ True ∧ True ∧ True ∧ (List.length (listL (Prod.fst y9) (Prod.snd
(Prod.snd y9))) = List.length (Prod.snd (Prod.snd (Prod.fst y10))) ∧ SC.rows (eI IntKind.i64) (1 : Nat) (1 : Nat) true (listL (Prod.fst y9) (Prod.snd (Prod.snd y9))) = SC.rows (eI IntKind.i64) (1 :
Nat) (1 : Nat) true (Prod.snd (Prod.snd (Prod.fst y10)))) ∧ chkR (Prod.fst y9) (Prod.snd (Prod.snd y9)) = Prod.fst (Prod.fst y10) ∧ True ∧ True ∧ True ∧ (0 : Int) = (↑(Prod.snd y10) : Int) ∧ True ∧
True ∧ True ∧ True ∧ True ∧ True ∧ True ∧ True ∧ True ∧ True ∧ True ∧ True ∧ True ∧ True ∧ True ∧ True ∧ True ∧ True ∧ True ∧ True ∧ True ∧ True ∧ True ∧ True ∧ True ∧ True ∧ True ∧ True ∧ True ∧ True
∧ True ∧ True ∧ True ∧ True ∧ True ∧ True ∧ True ∧ True ∧ True ∧ True ∧ True ∧ True ∧ True ∧ True ∧ True ∧ True ∧ True ∧ True ∧ True ∧ True ∧ True ∧ True ∧ True ∧ True ∧ True ∧ True ∧ True ∧ True ∧
True ∧ True ∧ True ∧ True ∧ True ∧ True ∧ True ∧ True ∧ True ∧ True ∧ True ∧ True ∧ True ∧ True ∧ True ∧ True ∧ True ∧ True ∧ True ∧ True ∧ True ∧ True ∧ True ∧ True ∧ True ∧ True ∧ True ∧ True ∧ True
∧ True ∧ True ∧ True ∧ True ∧ True ∧ True ∧ True ∧ True ∧ True ∧ True ∧ True ∧ True ∧ True ∧ True ∧ True ∧ True ∧ True ∧ True ∧ True ∧ True ∧ True ∧ True ∧ True ∧ True ∧ True ∧ True ∧ True ∧ True ∧
True ∧ True ∧ True ∧ True ∧ True ∧ True ∧ True ∧ True ∧ True ∧ True ∧ True ∧ True ∧ True ∧ True ∧ True ∧ True ∧ True ∧ True ∧ True ∧ True ∧ True ∧ True ∧ True ∧ True ∧ True) ∧ True) ∧ (∀ (y11 : LInv.ι
LB), True) ∧ (∀ (y11 : LInv.Ω LB), LInv.PE LB y10 y11 → (y11 = (0 : Int) ↔ true = true)) ∧ True) ∧ True)))))) := by kernel_rfl
end
end Go.Proofs.Ytifgifhbefhkmaa.VM
/- Sets of tracks, two of them, and there and back: the laws. No conditions. -/
namespace Go.Proofs.Ytifgifhbefhkmaa.VM
open Go Go.RowKit
set_option linter.unusedVariables false
set_option linter.unusedSimpArgs false
set_option maxRecDepth 100000
noncomputable section
theorem inL_split {f : Nat} {g : Nat → List V → Option (V × List Blk)} (hf : cfM.ext f = some g) : (f = 23 ∧ g = memoG (.bool true)) ∨ (f = 20 ∧ g = liftG (nextF cf0)) ∨ g = liftG (fun k base vs => vcall Try.prog cf0 k f base vs) ∨ g = liftG (fun k base vs => vcall Try.prog cfB k f base vs) ∨ (f = 24 ∧ g = liftG (fun k base vs => vcall Try.prog cfO k f base vs)) := by
  have hf : (bif Nat.beq f 23 then some (memoG (.bool true)) else bif Nat.beq f 20 then some (liftG (nextF cf0)) else bif inL f fnM then some (liftG fun k base vs => vcall Try.prog cf0 k f base vs) else bif inL f fnB then some (liftG fun k base vs => vcall Try.prog cfB k f base vs) else bif Nat.beq f 24 then some (liftG fun k base vs => vcall Try.prog cfO k f base vs) else none) = some g := hf
  cases h1 : Nat.beq f 23 with
  | true => rw [h1] at hf; cases hf; exact .inl ⟨Nat.eq_of_beq_eq_true h1, rfl⟩
  | false =>
    rw [h1] at hf
    cases h2 : Nat.beq f 20 with
    | true => rw [h2] at hf; cases hf; exact .inr (.inl ⟨Nat.eq_of_beq_eq_true h2, rfl⟩)
    | false =>
      rw [h2] at hf
      cases h3 : inL f fnM with
      | true => rw [h3] at hf; cases hf; exact .inr (.inr (.inl rfl))
      | false =>
        rw [h3] at hf
        cases h4 : inL f fnB with
        | true => rw [h4] at hf; cases hf; exact .inr (.inr (.inr (.inl rfl)))
        | false =>
          rw [h4] at hf
          cases h5 : Nat.beq f 24 with
          | true => rw [h5] at hf; cases hf; exact .inr (.inr (.inr (.inr ⟨Nat.eq_of_beq_eq_true h5, rfl⟩)))
          | false => rw [h5] at hf; cases hf
theorem extB_ok : ExtOK Try.prog cfB := by
  intro f g hf base vs rv blks h
  have hf : (bif Nat.beq f 49 then some (liftG fun k base vs => vcall Try.prog cf0 k f base vs) else none) = some g := hf
  cases h1 : Nat.beq f 49 with
  | true => rw [h1] at hf; cases hf; exact lift_iso (by kernel_rfl) ext_ok h
  | false => rw [h1] at hf; cases hf
theorem memo_iso {P : Program} {f base : Nat} {rv0 rv : V} {blks : List Blk} {vs : List V} (hm : IsoSound P f 0 [] rv0 []) (h : memoG rv0 base vs = some (rv, blks)) : IsoSound P f base vs rv blks := by
  unfold memoG at h
  split at h
  · cases h; exact iso_base hm
  · cases h
theorem cfM_ok : ExtOK Try.prog cfM := by
  intro f g hf base vs rv blks h
  rcases inL_split hf with ⟨rfl, rfl⟩ | ⟨rfl, rfl⟩ | rfl | rfl | ⟨rfl, rfl⟩
  · exact memo_iso (vcall_ok (by kernel_rfl) cfN_ok 200 23 0 [] _ _ alive_val) h
  · exact lift_next ext_ok h
  · exact lift_iso (by kernel_rfl) ext_ok h
  · exact lift_iso (by kernel_rfl) extB_ok h
  · exact lift_iso (by kernel_rfl) extO_ok h
theorem alive_ok : CtOK Try.prog cfM 23 ctAlive := by
  intro base bs K hK as' has vbase
  obtain ⟨_, h1, _, h3⟩ := hK
  have hr := sles_rel h1 has
  cases hr
  exact ⟨.bool true, [], _, [], ⟨0, fun n _ => rfl⟩, h3, .nil, .bool _ _ Iff.rfl⟩
theorem sxBoth_ok : SXOK Try.prog cfM sxBoth := sxok_of (all_cons alive_ok (all_cons (ct_lift rfl orP_ok) (all_cons (ct_lift rfl miP_ok) (all_cons (ct_lift rfl countB_ok) (all_cons (ct_lift rfl hasB_ok) all_nil))))) all_nil
theorem firstE_eq {n : Int} {s u : List Int} (h : chkR n s = 0) : firstE n s u = chkR n u := by unfold firstE; rw [if_pos h]
theorem hasV_of {n : Int} {s : List Int} {t : Int} (h : hasE n s t = 0) : hasV n s t = inB s t := by unfold hasV; rw [h]; rfl
theorem hasE_of {n : Int} {s : List Int} {t : Int} (h : chkR n s = 0) : hasE n s t = if 0 ≤ t ∧ t < n then 0 else 2 := by unfold hasE; rw [if_pos h]
theorem both_all (n : Int) (s u : List Int) (t : Int) (hs : By s) (hu : By u) : scallI sxBoth Try.prog cfM (sexec sxBoth Try.prog cfM 1000) 7 0 [.int .i64 (.sym n), row s, row u, .int .i64 (.sym t)] (post (.bool (.lit true))) := by
  rw [vc_Both]
  simp only [true_and, and_true, eq_self, implies_true]
  refine Exists.intro () fun h1 h2 => ?_
  have ls : s.length ≤ 1000 := by omega
  have lu : u.length ≤ 1000 := by omega
  refine Exists.intro (n, s, u) ⟨⟨rfl, ⟨rfl, rfl⟩, rfl, rfl⟩, ⟨hs, hu, ls, lu⟩, Exists.intro (n, s, u) ⟨⟨rfl, ⟨rfl, rfl⟩, rfl, rfl⟩, ⟨hs, hu, ls, lu⟩, fun h0 => ?_, fun h0 => ?_⟩⟩
  · have h0 : ¬ firstE n s u = 0 := h0
    have e1 : orP n s u = [] := by unfold orP; rw [if_neg h0]
    have e2 : miP n s u = [] := by unfold miP; rw [if_neg h0]
    simp [e1, e2]
  · have h0 : firstE n s u = 0 := Classical.not_not.1 h0
    obtain ⟨c1, c2⟩ := firstE_good h0
    obtain ⟨n1, n2, n3, _⟩ := chkR_good c1
    obtain ⟨_, _, m3, _⟩ := chkR_good c2
    obtain ⟨p1, p2, p3⟩ := pages_le n1 n2
    have e1 : orP n s u = List.zipWith orN s u := by unfold orP; rw [if_pos h0]
    have e2 : miP n s u = List.zipWith andN s u := by unfold miP; rw [if_pos h0]
    have l1 : (List.zipWith orN s u).length = s.length := by rw [List.length_zipWith]; omega
    have l2 : (List.zipWith andN s u).length = s.length := by rw [List.length_zipWith]; omega
    have k1 := chk_or hs hu c1 c2
    have k2 := chk_and hs hu c1 c2
    have hc := count_or hs hu c1 c2
    have b1 := By_zip orN_u8 s u
    have b2 := By_zip andN_u8 s u
    simp only [e1, e2]
    refine ⟨fun q => absurd h0 q, fun _ => Exists.intro (n, List.zipWith orN s u) ⟨⟨rfl, rfl, rfl⟩, ⟨b1, by show (List.zipWith orN s u).length ≤ 1000; omega⟩, Exists.intro (n, List.zipWith andN s u) ⟨⟨rfl, rfl, rfl⟩, ⟨b2, by show (List.zipWith andN s u).length ≤ 1000; omega⟩, Exists.intro (n, u) ⟨⟨rfl, rfl, rfl⟩, ⟨hu, lu⟩, fun q => absurd k1 q, fun _ => ⟨fun q => absurd k2 q, fun _ => ⟨fun q => absurd c2 q, fun _ => ⟨fun q => absurd ?_ q, fun _ => ?_⟩⟩⟩⟩⟩⟩⟩
    · have hb : ∀ v : List Int, chkR n v = 0 → 0 ≤ countI n v ∧ countI n v ≤ 16 := fun v hv => by
        have := listL_len n v
        unfold countI; omega
      have q2 := hb _ k2
      have q3 := hb _ c2
      show countI n (List.zipWith orN s u) = IntKind.i64.wrap (countI n (List.zipWith andN s u) + countI n u)
      rw [wr_i64 (by omega) (by omega)]
      exact hc
    · refine Exists.intro (n, s, t) ⟨⟨rfl, ⟨rfl, rfl⟩, rfl⟩, ⟨hs, ls⟩, Exists.intro (n, u, t) ⟨⟨rfl, ⟨rfl, rfl⟩, rfl⟩, ⟨hu, lu⟩, Exists.intro (n, List.zipWith orN s u, t) ⟨⟨rfl, ⟨rfl, rfl⟩, rfl⟩, ⟨b1, by show (List.zipWith orN s u).length ≤ 1000; omega⟩, Exists.intro (n, List.zipWith andN s u, t) ⟨⟨rfl, ⟨rfl, rfl⟩, rfl⟩, ⟨b2, by show (List.zipWith andN s u).length ≤ 1000; omega⟩, ?_⟩⟩⟩⟩
      have f1 := hasE_of (t := t) c1
      have f2 := hasE_of (t := t) c2
      have f3 := hasE_of (t := t) k1
      have f4 := hasE_of (t := t) k2
      simp only [f1, f2, f3, f4, eq_self, true_and, not_true, false_implies, and_true, forall_const]
      by_cases ht : 0 ≤ t ∧ t < n
      · rw [if_pos ht] at f1 f2 f3 f4 ⊢
        obtain ⟨k, rfl⟩ : ∃ k : Nat, t = k := ⟨t.toNat, by omega⟩
        have v1 := hasV_of f1
        have v2 := hasV_of f2
        have v3 := hasV_of f3
        have v4 := hasV_of f4
        rw [or_bit hs hu (by omega) (by omega)] at v3
        rw [and_bit hs hu (by omega) (by omega)] at v4
        simp only [v1, v2, v3, v4]
        cases inB s (k : Int) <;> cases inB u (k : Int) <;> simp
      · rw [if_neg ht]; simp

end
end Go.Proofs.Ytifgifhbefhkmaa.VM
/- Sets of tracks, there and back: the law. No conditions. -/
namespace Go.Proofs.Ytifgifhbefhkmaa.VM
open Go Go.RowKit
set_option linter.unusedVariables false
set_option linter.unusedSimpArgs false
set_option maxRecDepth 100000
noncomputable section
theorem sxA0_ok : SXOK Try.prog cfM sxA0 := sxok_of (all_cons (ct_lift rfl hasB_ok) all_nil) all_nil
theorem sxC0_ok : SXOK Try.prog cfM sxC0 := sxok_of all_nil all_nil
theorem LA_ok (a : LA.ι) (ha : LA.G a) : sexec sxA0 Try.prog cfM 1000 (loopBody Try.prog 5 0) (LA.I a) (LA.round 1000 a) := by
  rw [vc_LA]
  obtain ⟨⟨n, l, s⟩, t⟩ := a
  obtain ⟨g1, g2, g3, g4, g5⟩ := ha
  have g1 : ∀ t ∈ l, hasE n s t = 0 ∧ hasV n s t = true := g1
  have g4 : t ≤ l.length := g4
  have g5 : l.length ≤ 100 := g5
  simp only [true_and, and_true, eq_self, Int.toNat_natCast]
  refine ⟨fun h1 => ⟨by omega, by omega, by omega, fun x hx => Exists.intro (n, s, x) ⟨⟨rfl, ⟨rfl, rfl⟩, rfl⟩, ⟨g2, g3⟩, fun q => absurd (g1 x (List.mem_of_getElem? hx)).1 q, fun _ => ⟨fun q => absurd (g1 x (List.mem_of_getElem? hx)).2 q, fun _ => Exists.intro ((n, l, s), t + 1) ⟨⟨g1, g2, g3, by show t + 1 ≤ l.length; omega, g5⟩, by show l.length - (t + 1) < l.length - t; omega, fun o ho => ho, rfl, ⟨rfl, rfl⟩, ⟨rfl, rfl⟩, ⟨rfl, rfl⟩, rfl, nx (by omega)⟩⟩⟩⟩, fun h1 => Exists.intro (n, l, s) ⟨rfl, ⟨rfl, rfl⟩, ⟨rfl, rfl⟩, rfl⟩⟩
theorem LC_ok (a : LC.ι) (ha : LC.G a) : sexec sxC0 Try.prog cfM 1000 (loopBody Try.prog 5 2) (LC.I a) (LC.round 1000 a) := by
  rw [vc_LC]
  obtain ⟨⟨⟨c, l, m⟩, i⟩, t⟩ := a
  obtain ⟨g1, g2, g3, g4⟩ := ha
  have g1 : i < m.length := g1
  have g2 : m.length ≤ 100 := g2
  have g3 : t ≤ l.length := g3
  have g4 : l.length ≤ 100 := g4
  simp only [true_and, and_true, eq_self, Int.toNat_natCast, true_iff]
  refine ⟨fun h1 => ⟨fun he => Exists.intro (((c, l, m), i), t + 1) ⟨⟨g1, g2, by show t + 1 ≤ l.length; omega, g4⟩, by show l.length - (t + 1) < l.length - t; omega, fun o ho => ho, ⟨rfl, rfl⟩, ⟨rfl, rfl⟩, rfl, rfl, ?_, nx (by omega)⟩, fun he => ⟨by omega, by omega, by omega, fun x hx => ⟨by omega, by omega, by omega, fun y hy => Exists.intro (((c, l, m), i), t + 1) ⟨⟨g1, g2, by show t + 1 ≤ l.length; omega, g4⟩, by show l.length - (t + 1) < l.length - t; omega, fun o ho => ho, ⟨rfl, rfl⟩, ⟨rfl, rfl⟩, rfl, rfl, ?_, nx (by omega)⟩⟩⟩⟩, fun h1 => Exists.intro ((c, l, m), i) ⟨rfl, ⟨rfl, rfl⟩, ⟨rfl, rfl⟩, rfl, rfl, ?_⟩⟩
  · obtain ⟨k, k1, k2⟩ := he
    exact ⟨k, Nat.lt_succ_of_lt k1, k2⟩
  · have he : ¬ ∃ k : Nat, k < t ∧ l[k]? = m[i]? := he
    show x = y ↔ ∃ k : Nat, k < t + 1 ∧ l[k]? = m[i]?
    constructor
    · intro q; subst q; exact ⟨t, Nat.lt_succ_self t, by rw [hx, hy]⟩
    · rintro ⟨k, k1, k2⟩
      by_cases q : k = t
      · subst q; rw [hx, hy] at k2; exact Option.some.inj k2
      · exact absurd ⟨k, by omega, k2⟩ he
  · show (∃ k : Nat, k < t ∧ l[k]? = m[i]?) ↔ ∃ k : Nat, k < l.length ∧ l[k]? = m[i]?
    rw [show t = l.length by omega]
theorem sxB0_ok : SXOK Try.prog cfM sxB0 := sxok_lp all_nil (all_cons (inv_vc (m := 1000) sxC0_ok LC_ok) all_nil)
theorem LB_ok (a : LB.ι) (ha : LB.G a) : sexec sxB0 Try.prog cfM 1000 (loopBody Try.prog 5 1) (LB.I a) (LB.round 1000 a) := by
  rw [vc_LB]
  obtain ⟨⟨c, l, m⟩, t⟩ := a
  obtain ⟨g1, g2, g3, g4, g5⟩ := ha
  have g1 : ∀ t ∈ m, t ∈ l := g1
  have g2 : ∀ (k : Nat) x y, m[k]? = some x → m[k + 1]? = some y → x < y := g2
  have g3 : t ≤ m.length := g3
  have g4 : m.length ≤ 100 := g4
  have g5 : l.length ≤ 100 := g5
  simp only [true_and, and_true, eq_self, Int.toNat_natCast, implies_true]
  refine ⟨fun h1 => ⟨SameCode.refl _, Exists.intro (((c, l, m), t), 0) ⟨⟨by show t < m.length; omega, g4, Nat.zero_le _, g5⟩, ⟨⟨rfl, rfl⟩, ⟨rfl, rfl⟩, rfl, rfl, ?_, rfl⟩, fun o ho => ?_⟩⟩, fun h1 => Exists.intro c ⟨rfl, rfl⟩⟩
  · constructor
    · intro q; cases q
    · rintro ⟨k, k1, _⟩; exact absurd k1 (Nat.not_lt_zero k)
  · have ho : o = ((c, l, m), t) := ho
    subst ho
    simp only
    obtain ⟨x, hx⟩ : ∃ x, m[t]? = some x := ⟨m[t]'(by omega), List.getElem?_eq_getElem (by omega)⟩
    have hin : ∃ k : Nat, k < l.length ∧ l[k]? = m[t]? := by
      obtain ⟨k, hk⟩ := List.mem_iff_getElem?.1 (g1 x (List.mem_of_getElem? hx))
      exact ⟨k, (List.getElem?_eq_some_iff.1 hk).1, by rw [hk, hx]⟩
    have next : ∃ y5 : LB.ι, LB.G y5 ∧ LB.μ y5 < LB.μ ((c, l, m), t) ∧ (∀ (y6 : LB.Ω), LB.PE y5 y6 → y6 = c) ∧ (l.length = y5.1.2.1.length ∧ SC.rows (eI IntKind.i64) 1 1 true l = SC.rows (eI IntKind.i64) 1 1 true y5.1.2.1) ∧ (m.length = y5.1.2.2.length ∧ SC.rows (eI IntKind.i64) 1 1 true m = SC.rows (eI IntKind.i64) 1 1 true y5.1.2.2) ∧ c = y5.1.1 ∧ IntKind.i64.wrap ((t : Int) + 1) = (y5.2 : Int) :=
      ⟨((c, l, m), t + 1), ⟨g1, g2, by show t + 1 ≤ m.length; omega, g4, g5⟩, by show m.length - (t + 1) < m.length - t; omega, fun o ho => ho, ⟨rfl, rfl⟩, ⟨rfl, rfl⟩, rfl, nx (by omega)⟩
    refine ⟨fun q => absurd hin q, fun _ => ⟨fun hpos => ?_, fun _ => next⟩⟩
    have e1 : IntKind.i64.wrap ((t : Int) - 1) = ((t - 1 : Nat) : Int) := by rw [wr_i64 (by omega) (by omega)]; omega
    rw [e1]
    simp only [Int.toNat_natCast]
    refine ⟨by omega, by omega, by omega, fun y3 h3 => ⟨by omega, by omega, by omega, fun y4 h4 => ⟨fun hle => ?_, fun _ => next⟩⟩⟩
    have := g2 (t - 1) y4 y3 h4 (by rw [show t - 1 + 1 = t by omega]; exact h3)
    omega
theorem sxBack_ok : SXOK Try.prog cfM sxBack := sxok_lp (all_cons alive_ok (all_cons (ct_lift rfl of_ok) (all_cons (ct_lift rfl listB_ok) (all_cons (ct_lift rfl hasB_ok) all_nil)))) (all_cons (inv_vc (m := 1000) sxA0_ok LA_ok) (all_cons (inv_vc (m := 1000) sxB0_ok LB_ok) all_nil))
theorem ofE_zero {n : Int} {l : List Int} (h : ofE n l = 0) : sizeB n = true ∧ InR n l := by
  unfold ofE at h
  split at h
  · assumption
  · cases h
theorem By_ofL (n : Int) (l : List Int) : By (ofL n l) := by
  unfold ofL
  split
  · rename_i h
    obtain ⟨h1, h2⟩ := ofE_zero h
    obtain ⟨n1, n2⟩ := sizeB_iff.1 h1
    exact (of_bit n1 n2 h2 0).1
  · intro x hx; cases hx
theorem ofL_len (n : Int) (l : List Int) : (ofL n l).length ≤ 1000 := by
  unfold ofL
  split
  · rename_i h
    obtain ⟨h1, h2⟩ := ofE_zero h
    obtain ⟨n1, n2⟩ := sizeB_iff.1 h1
    obtain ⟨p1, p2, p3⟩ := pages_le n1 n2
    rw [ofP_length]; omega
  · simp
theorem list_rise {n : Int} {s : List Int} {k : Nat} {x y : Int} (hx : (listL n s)[k]? = some x) (hy : (listL n s)[k + 1]? = some y) : x < y := by
  unfold listL at hx hy
  split at hx
  · rename_i h
    rw [if_pos h] at hy
    exact trkN_rise hx hy
  · cases hx
theorem back_all (n : Int) (l s : List Int) (hs : By s) : scallI sxBack Try.prog cfM (sexec sxBack Try.prog cfM 1000) 5 0 [.int .i64 (.sym n), rowJ l, row s] (post (.bool (.lit true))) := by
  rw [vc_Back]
  simp only [true_and, and_true, eq_self, implies_true]
  refine Exists.intro () fun h1 h2 => ?_
  have ll : l.length ≤ 100 := by omega
  have ls : s.length ≤ 1000 := by omega
  have lm := listL_len n s
  refine Exists.intro (n, s) ⟨⟨rfl, rfl, rfl⟩, ⟨hs, ls⟩, Exists.intro (n, listL n s) ⟨⟨rfl, rfl, rfl⟩, by show (listL n s).length ≤ 10000; omega, ?_⟩⟩
  simp only
  have bof := By_ofL n l
  have lof : (ofL n l).length ≤ 1000 := ofL_len n l
  by_cases hc : chkR n s = 0
  · obtain ⟨n1, n2, n3, _⟩ := chkR_good hc
    have hsz := sizeB_iff.2 ⟨n1, n2⟩
    have e0 := ofE_in hsz (list_in hc)
    have e1 : ofL n (listL n s) = s := by rw [ofL_in hsz (list_in hc), of_list hs hc]
    rw [e0, e1]
    have et : List.take s.length (rdrop (SN.lit 0) s) = s := List.take_of_length_le (Nat.le_refl _)
    rw [et]
    refine ⟨fun _ => ⟨fun q => absurd rfl q, fun _ => ⟨Nat.le_refl _, Exists.intro s ⟨rfl, Nat.le_refl _, Exists.intro s ⟨rfl, hs, hs, fun q => absurd rfl q, fun _ => ⟨fun q => absurd hc q, fun _ => ?_⟩⟩⟩⟩⟩, fun q => absurd hc q⟩
    refine Exists.intro (n, l) ⟨⟨rfl, rfl, rfl⟩, by show l.length ≤ 10000; omega, Exists.intro (n, ofL n l) ⟨⟨rfl, rfl, rfl⟩, ⟨bof, lof⟩, fun q => by have q : ¬ ofE n l = 0 := q; have e : ofL n l = [] := (by unfold ofL; rw [if_neg q]); simp [e], fun q => ?_⟩⟩
    have q : ofE n l = 0 := Classical.not_not.1 q
    obtain ⟨q1, q2⟩ := ofE_zero q
    have e := ofL_in q1 q2
    refine ⟨SameCode.refl _, Exists.intro ((n, l, ofL n l), 0) ⟨⟨fun t ht => by have ht : t ∈ l := ht; show hasE n (ofL n l) t = 0 ∧ hasV n (ofL n l) t = true; rw [e]; exact has_of q1 q2 ht, bof, lof, Nat.zero_le _, ll⟩, ⟨rfl, ⟨rfl, rfl⟩, ⟨rfl, rfl⟩, ⟨rfl, rfl⟩, rfl, rfl⟩, fun o ho => ?_⟩⟩
    have ho : o = (n, l, ofL n l) := ho
    subst ho
    refine ⟨SameCode.refl _, Exists.intro ((chkR n (ofL n l), l, listL n (ofL n l)), 0) ⟨⟨fun t ht => by have ht : t ∈ listL n (ofL n l) := ht; rw [e] at ht; exact list_of q1 q2 ht, fun k x y hx hy => list_rise hx hy, Nat.zero_le _, by show (listL n (ofL n l)).length ≤ 100; have := listL_len n (ofL n l); omega, ll⟩, ⟨⟨rfl, rfl⟩, ⟨rfl, rfl⟩, rfl, rfl⟩, fun o2 ho2 => ?_⟩⟩
    have ho2 : o2 = chkR n (ofL n l) := ho2
    rw [ho2, e, chk_ofP q1 q2]
    exact ⟨fun _ => trivial, fun _ => rfl⟩
  · have em : listL n s = [] := by unfold listL; rw [if_neg hc]
    refine ⟨fun q => absurd q hc, fun _ => ⟨fun _ => ⟨fun q => ?_, fun _ => ?_⟩, fun q => absurd hc q⟩⟩
    · rw [em] at q; exact absurd q (by decide)
    · refine Exists.intro (n, l) ⟨⟨rfl, rfl, rfl⟩, by show l.length ≤ 10000; omega, Exists.intro (n, ofL n l) ⟨⟨rfl, rfl, rfl⟩, ⟨bof, lof⟩, fun q => by have q : ¬ ofE n l = 0 := q; have e : ofL n l = [] := (by unfold ofL; rw [if_neg q]); simp [e], fun q => ?_⟩⟩
      have q : ofE n l = 0 := Classical.not_not.1 q
      obtain ⟨q1, q2⟩ := ofE_zero q
      have e := ofL_in q1 q2
      refine ⟨SameCode.refl _, Exists.intro ((n, l, ofL n l), 0) ⟨⟨fun t ht => by have ht : t ∈ l := ht; show hasE n (ofL n l) t = 0 ∧ hasV n (ofL n l) t = true; rw [e]; exact has_of q1 q2 ht, bof, lof, Nat.zero_le _, ll⟩, ⟨rfl, ⟨rfl, rfl⟩, ⟨rfl, rfl⟩, ⟨rfl, rfl⟩, rfl, rfl⟩, fun o ho => ?_⟩⟩
      have ho : o = (n, l, ofL n l) := ho
      subst ho
      refine ⟨SameCode.refl _, Exists.intro ((chkR n (ofL n l), l, listL n (ofL n l)), 0) ⟨⟨fun t ht => by have ht : t ∈ listL n (ofL n l) := ht; rw [e] at ht; exact list_of q1 q2 ht, fun k x y hx hy => list_rise hx hy, Nat.zero_le _, by show (listL n (ofL n l)).length ≤ 100; have := listL_len n (ofL n l); omega, ll⟩, ⟨⟨rfl, rfl⟩, ⟨rfl, rfl⟩, rfl, rfl⟩, fun o2 ho2 => ?_⟩⟩
      have ho2 : o2 = chkR n (ofL n l) := ho2
      rw [ho2, e, chk_ofP q1 q2]
      exact ⟨fun _ => trivial, fun _ => rfl⟩
theorem lo_i64 : LO Try.prog 3 1 (eI .i64) (fun n => IntKind.min .i64 ≤ n ∧ n ≤ IntKind.max .i64) := lo_int Try.underlying3 (by kernel_rfl)
theorem lo_ints : LO Try.prog 31 1 (eR (eI .i64) 1 1 true) (fun xs => xs.length ≤ 9223372036854775807 ∧ ∀ y ∈ xs, IntKind.min .i64 ≤ y ∧ y ≤ IntKind.max .i64) := lo_slice Try.underlying31 (by kernel_rfl) lo_i64 (Nat.le_refl 1) rokJ
theorem walkBoth (n : Int) (s u : List Int) (t : Int) (_ : IntKind.min .i64 ≤ n ∧ n ≤ IntKind.max .i64) (hs : s.length ≤ 9223372036854775807 ∧ ∀ y ∈ s, IntKind.min .u8 ≤ y ∧ y ≤ IntKind.max .u8) (hu : u.length ≤ 9223372036854775807 ∧ ∀ y ∈ u, IntKind.min .u8 ≤ y ∧ y ≤ IntKind.max .u8) (_ : IntKind.min .i64 ≤ t ∧ t ≤ IntKind.max .i64) :
    ∃ sx : SX, SXOK Try.prog cfM sx ∧ scallI sx Try.prog cfM (sexec sx Try.prog cfM 1000) 7 0 [.int .i64 (.sym n), row s, row u, .int .i64 (.sym t)] (post (.bool (.lit true))) :=
  ⟨sxBoth, sxBoth_ok, both_all n s u t (By_of hs) (By_of hu)⟩
theorem walkBack (n : Int) (l s : List Int) (_ : IntKind.min .i64 ≤ n ∧ n ≤ IntKind.max .i64) (_ : l.length ≤ 9223372036854775807 ∧ ∀ y ∈ l, IntKind.min .i64 ≤ y ∧ y ≤ IntKind.max .i64) (hs : s.length ≤ 9223372036854775807 ∧ ∀ y ∈ s, IntKind.min .u8 ≤ y ∧ y ≤ IntKind.max .u8) :
    ∃ sx : SX, SXOK Try.prog cfM sx ∧ scallI sx Try.prog cfM (sexec sx Try.prog cfM 1000) 5 0 [.int .i64 (.sym n), rowJ l, row s] (post (.bool (.lit true))) :=
  ⟨sxBack, sxBack_ok, back_all n l s (By_of hs)⟩

end
end Go.Proofs.Ytifgifhbefhkmaa.VM
