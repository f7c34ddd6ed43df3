/- What the law's own questions answer: do both sites write, is a record free; told. No conditions. -/
import Derived.Test.YtaefpedblfhabaaProg
import Derived.KernelRfl
import Derived.Test.YtaefpedblfhabaaSoB
namespace Go.Proofs.Ytaefpedblfhabaa.VM
open Go Go.RowKit
set_option linter.unusedVariables false
set_option linter.unusedSimpArgs false
set_option maxRecDepth 100000
noncomputable section
def bothX (a b : R) : Bool := decide (writesE 0 a = 0) && decide (writesE 1 b = 0) && writesX 0 a && writesX 1 b
def freeX (r : R) : Bool := decide (r.phase = 3) || r.alone
theorem vc_both (a b : R) (x : Prop) : (scallI sxL Try.prog cf0 (sexec sxL Try.prog cf0 1000) 6 0 [a.l, b.l] (post (.bool (.sym x)))) = (∃ (y3 : Int × R),
  ((0 : Int) = Prod.fst y3 ∧
      (R.pair a = R.pair (Prod.snd y3) ∧
          R.born a = R.born (Prod.snd y3) ∧
            R.epoch a = R.epoch (Prod.snd y3) ∧
              R.lead a = R.lead (Prod.snd y3) ∧
                R.phase a = R.phase (Prod.snd y3) ∧
                  R.frm a = R.frm (Prod.snd y3) ∧
                    (R.quick a = true ↔ R.quick (Prod.snd y3) = true) ∧
                      (R.alone a = true ↔ R.alone (Prod.snd y3) = true) ∧ True) ∧
        True) ∧
    True ∧
      ∃ (y4 : Int × R),
        ((1 : Int) = Prod.fst y4 ∧
            (R.pair b = R.pair (Prod.snd y4) ∧
                R.born b = R.born (Prod.snd y4) ∧
                  R.epoch b = R.epoch (Prod.snd y4) ∧
                    R.lead b = R.lead (Prod.snd y4) ∧
                      R.phase b = R.phase (Prod.snd y4) ∧
                        R.frm b = R.frm (Prod.snd y4) ∧
                          (R.quick b = true ↔ R.quick (Prod.snd y4) = true) ∧
                            (R.alone b = true ↔ R.alone (Prod.snd y4) = true) ∧ True) ∧
              True) ∧
          True ∧
            (writesE (Prod.fst y3) (Prod.snd y3) = (0 : Int) →
                (writesE (Prod.fst y4) (Prod.snd y4) = (0 : Int) →
                    (writesX (Prod.fst y3) (Prod.snd y3) = true → (writesX (Prod.fst y4) (Prod.snd y4) = true ↔ x)) ∧
                      (¬writesX (Prod.fst y3) (Prod.snd y3) = true → (false = true ↔ x))) ∧
                  (¬writesE (Prod.fst y4) (Prod.snd y4) = (0 : Int) → (false = true ↔ x))) ∧
              (¬writesE (Prod.fst y3) (Prod.snd y3) = (0 : Int) → (false = true ↔ x))) := by kernel_rfl
theorem vc_free (a : R) (x : Prop) : (scallI sxL Try.prog cf0 (sexec sxL Try.prog cf0 1000) 7 0 [a.l] (post (.bool (.sym x)))) = ((R.phase a = (3 : Int) → (true = true ↔ x)) ∧ (¬R.phase a = (3 : Int) → (R.alone a = true ↔ x))) := by kernel_rfl
theorem both_all (a b : R) : scallI sxL Try.prog cf0 (sexec sxL Try.prog cf0 1000) 6 0 [a.l, b.l] (post (.bool (.sym (bothX a b = true)))) := by
  rw [vc_both]
  refine Exists.intro (0, a) ⟨?_, trivial, Exists.intro (1, b) ⟨?_, trivial, ?_⟩⟩
  · repeat' first | exact trivial | rfl | exact Iff.rfl | apply And.intro
  · repeat' first | exact trivial | rfl | exact Iff.rfl | apply And.intro
  · unfold bothX
    cases h1 : writesX 0 a <;> cases h2 : writesX 1 b <;> by_cases h3 : writesE 0 a = 0 <;> by_cases h4 : writesE 1 b = 0 <;> simp [*]
theorem free_all (a : R) : scallI sxL Try.prog cf0 (sexec sxL Try.prog cf0 1000) 7 0 [a.l] (post (.bool (.sym (freeX a = true)))) := by
  rw [vc_free]
  unfold freeX
  by_cases h : a.phase = 3 <;> simp [*]
def ctBoth : SCall := Ct (fun a : R × R => [a.1.l, a.2.l]) (fun _ => True) (fun a => .bool (.sym (bothX a.1 a.2 = true)))
def ctFree : SCall := Ct (fun a : R => [a.l]) (fun _ => True) (fun a => .bool (.sym (freeX a = true)))
def sxM : SX := ⟨fun _ => none, ctOf [(4, ctAlive), (5, ctCheck), (8, ctOrder), (9, ctJoin), (10, ctNext), (6, ctBoth), (7, ctFree)], lpOf []⟩
theorem sxM_ok : SXOK Try.prog cf0 sxM := sxok_of (all_cons al (all_cons ck (all_cons (ct_vc (m := 1000) sx1_ok fun a _ => order_all a.1 a.2.1 a.2.2) (all_cons (ct_vc (m := 1000) sx1_ok fun a _ => join_all a.1 a.2.1 a.2.2) (all_cons (ct_vc (m := 1000) sx1_ok fun a _ => next_all a.1 a.2) (all_cons (ct_vc (m := 1000) sxL_ok fun a _ => both_all a.1 a.2) (all_cons (ct_vc (m := 1000) sxL_ok fun a _ => free_all a) all_nil))))))) all_nil

end
end Go.Proofs.Ytaefpedblfhabaa.VM
