/- Records and what the table of states answers. No conditions. -/
import Derived.Test.YtaefpedblfhabaaProg
import Derived.KernelRfl
import Derived.Test.YtaefpedblfhabaaSVv
namespace Go.Proofs.Ytaefpedblfhabaa.VM
open Go Go.RowKit
set_option linter.unusedVariables false
set_option linter.unusedSimpArgs false
set_option maxRecDepth 100000
noncomputable section
def cf0 : Cfg := ⟨fun f => false, fun f => false, fun _ => none⟩
/-- A record. -/
structure R where
  pair : Int
  born : Int
  epoch : Int
  lead : Int
  phase : Int
  frm : Int
  quick : Bool
  alone : Bool
def R.cells (r : R) : List SV := [.int .i64 (.sym r.pair), .int .u32 (.sym r.born), .int .u32 (.sym r.epoch), .int .i64 (.sym r.lead), .int .u8 (.sym r.phase), .int .i64 (.sym r.frm), .bool (.sym (r.quick = true)), .bool (.sym (r.alone = true))]
def R.l (r : R) : SV := .agg r.cells
def R.ok (r : R) : Bool := decide (0 ≤ r.pair) && decide (r.pair < 3) && decide (0 < r.born) && decide (0 < r.epoch) && (decide (r.lead = 0) || decide (r.lead = 1)) && (decide (r.frm = 0) || decide (r.frm = 1)) && ((decide (r.phase = 2) || decide (r.phase = 3)) && decide (r.frm = r.lead) && !r.quick || decide (r.phase = 1) && (!r.quick || !decide (r.frm = r.lead)))
def checkE (r : R) : Int := if r.ok then 0 else 110
def sx0 : SX := ⟨fun _ => none, ctOf [], lpOf []⟩
theorem vc_check (r : R) (x : Int) : (scallI sx0 Try.prog cf0 (sexec sx0 Try.prog cf0 1000) 5 0 [r.l] (post (.int .i64 (.sym x)))) = (((0 : Int) ≤ R.pair r →
    (R.pair r < (3 : Int) →
        ((0 : Int) < R.born r →
            ((0 : Int) < R.epoch r →
                (¬R.lead r = (0 : Int) →
                    (¬R.lead r = (1 : Int) →
                        (R.phase r = (2 : Int) → (110 : Int) = x) ∧
                          (¬R.phase r = (2 : Int) →
                            (R.phase r = (3 : Int) → (110 : Int) = x) ∧
                              (¬R.phase r = (3 : Int) →
                                (R.phase r = (1 : Int) → (110 : Int) = x) ∧
                                  (¬R.phase r = (1 : Int) → (110 : Int) = x)))) ∧
                      (¬¬R.lead r = (1 : Int) →
                        (¬R.frm r = (0 : Int) →
                            (¬R.frm r = (1 : Int) →
                                (R.phase r = (2 : Int) → (110 : Int) = x) ∧
                                  (¬R.phase r = (2 : Int) →
                                    (R.phase r = (3 : Int) → (110 : Int) = x) ∧
                                      (¬R.phase r = (3 : Int) →
                                        (R.phase r = (1 : Int) → (110 : Int) = x) ∧
                                          (¬R.phase r = (1 : Int) → (110 : Int) = x)))) ∧
                              (¬¬R.frm r = (1 : Int) →
                                (R.phase r = (2 : Int) →
                                    (R.frm r = R.lead r →
                                        (¬R.quick r = true → (0 : Int) = x) ∧
                                          (¬¬R.quick r = true →
                                            (¬¬R.frm r = R.lead r → (110 : Int) = x) ∧
                                              (¬¬¬R.frm r = R.lead r → (0 : Int) = x))) ∧
                                      (¬R.frm r = R.lead r → (110 : Int) = x)) ∧
                                  (¬R.phase r = (2 : Int) →
                                    (R.phase r = (3 : Int) →
                                        (R.frm r = R.lead r →
                                            (¬R.quick r = true → (0 : Int) = x) ∧
                                              (¬¬R.quick r = true →
                                                (¬¬R.frm r = R.lead r → (110 : Int) = x) ∧
                                                  (¬¬¬R.frm r = R.lead r → (0 : Int) = x))) ∧
                                          (¬R.frm r = R.lead r → (110 : Int) = x)) ∧
                                      (¬R.phase r = (3 : Int) →
                                        (R.phase r = (1 : Int) →
                                            (¬R.quick r = true → (0 : Int) = x) ∧
                                              (¬¬R.quick r = true →
                                                (¬¬R.frm r = R.lead r → (110 : Int) = x) ∧
                                                  (¬¬¬R.frm r = R.lead r → (0 : Int) = x))) ∧
                                          (¬R.phase r = (1 : Int) → (110 : Int) = x))))) ∧
                          (¬¬R.frm r = (0 : Int) →
                            (R.phase r = (2 : Int) →
                                (R.frm r = R.lead r →
                                    (¬R.quick r = true → (0 : Int) = x) ∧
                                      (¬¬R.quick r = true →
                                        (¬¬R.frm r = R.lead r → (110 : Int) = x) ∧
                                          (¬¬¬R.frm r = R.lead r → (0 : Int) = x))) ∧
                                  (¬R.frm r = R.lead r → (110 : Int) = x)) ∧
                              (¬R.phase r = (2 : Int) →
                                (R.phase r = (3 : Int) →
                                    (R.frm r = R.lead r →
                                        (¬R.quick r = true → (0 : Int) = x) ∧
                                          (¬¬R.quick r = true →
                                            (¬¬R.frm r = R.lead r → (110 : Int) = x) ∧
                                              (¬¬¬R.frm r = R.lead r → (0 : Int) = x))) ∧
                                      (¬R.frm r = R.lead r → (110 : Int) = x)) ∧
                                  (¬R.phase r = (3 : Int) →
                                    (R.phase r = (1 : Int) →
                                        (¬R.quick r = true → (0 : Int) = x) ∧
                                          (¬¬R.quick r = true →
                                            (¬¬R.frm r = R.lead r → (110 : Int) = x) ∧
                                              (¬¬¬R.frm r = R.lead r → (0 : Int) = x))) ∧
                                      (¬R.phase r = (1 : Int) → (110 : Int) = x)))))) ∧
                  (¬¬R.lead r = (0 : Int) →
                    (¬R.frm r = (0 : Int) →
                        (¬R.frm r = (1 : Int) →
                            (R.phase r = (2 : Int) → (110 : Int) = x) ∧
                              (¬R.phase r = (2 : Int) →
                                (R.phase r = (3 : Int) → (110 : Int) = x) ∧
                                  (¬R.phase r = (3 : Int) →
                                    (R.phase r = (1 : Int) → (110 : Int) = x) ∧
                                      (¬R.phase r = (1 : Int) → (110 : Int) = x)))) ∧
                          (¬¬R.frm r = (1 : Int) →
                            (R.phase r = (2 : Int) →
                                (R.frm r = R.lead r →
                                    (¬R.quick r = true → (0 : Int) = x) ∧
                                      (¬¬R.quick r = true →
                                        (¬¬R.frm r = R.lead r → (110 : Int) = x) ∧
                                          (¬¬¬R.frm r = R.lead r → (0 : Int) = x))) ∧
                                  (¬R.frm r = R.lead r → (110 : Int) = x)) ∧
                              (¬R.phase r = (2 : Int) →
                                (R.phase r = (3 : Int) →
                                    (R.frm r = R.lead r →
                                        (¬R.quick r = true → (0 : Int) = x) ∧
                                          (¬¬R.quick r = true →
                                            (¬¬R.frm r = R.lead r → (110 : Int) = x) ∧
                                              (¬¬¬R.frm r = R.lead r → (0 : Int) = x))) ∧
                                      (¬R.frm r = R.lead r → (110 : Int) = x)) ∧
                                  (¬R.phase r = (3 : Int) →
                                    (R.phase r = (1 : Int) →
                                        (¬R.quick r = true → (0 : Int) = x) ∧
                                          (¬¬R.quick r = true →
                                            (¬¬R.frm r = R.lead r → (110 : Int) = x) ∧
                                              (¬¬¬R.frm r = R.lead r → (0 : Int) = x))) ∧
                                      (¬R.phase r = (1 : Int) → (110 : Int) = x))))) ∧
                      (¬¬R.frm r = (0 : Int) →
                        (R.phase r = (2 : Int) →
                            (R.frm r = R.lead r →
                                (¬R.quick r = true → (0 : Int) = x) ∧
                                  (¬¬R.quick r = true →
                                    (¬¬R.frm r = R.lead r → (110 : Int) = x) ∧
                                      (¬¬¬R.frm r = R.lead r → (0 : Int) = x))) ∧
                              (¬R.frm r = R.lead r → (110 : Int) = x)) ∧
                          (¬R.phase r = (2 : Int) →
                            (R.phase r = (3 : Int) →
                                (R.frm r = R.lead r →
                                    (¬R.quick r = true → (0 : Int) = x) ∧
                                      (¬¬R.quick r = true →
                                        (¬¬R.frm r = R.lead r → (110 : Int) = x) ∧
                                          (¬¬¬R.frm r = R.lead r → (0 : Int) = x))) ∧
                                  (¬R.frm r = R.lead r → (110 : Int) = x)) ∧
                              (¬R.phase r = (3 : Int) →
                                (R.phase r = (1 : Int) →
                                    (¬R.quick r = true → (0 : Int) = x) ∧
                                      (¬¬R.quick r = true →
                                        (¬¬R.frm r = R.lead r → (110 : Int) = x) ∧
                                          (¬¬¬R.frm r = R.lead r → (0 : Int) = x))) ∧
                                  (¬R.phase r = (1 : Int) → (110 : Int) = x)))))) ∧
              (¬(0 : Int) < R.epoch r →
                (R.phase r = (2 : Int) → (110 : Int) = x) ∧
                  (¬R.phase r = (2 : Int) →
                    (R.phase r = (3 : Int) → (110 : Int) = x) ∧
                      (¬R.phase r = (3 : Int) →
                        (R.phase r = (1 : Int) → (110 : Int) = x) ∧ (¬R.phase r = (1 : Int) → (110 : Int) = x))))) ∧
          (¬(0 : Int) < R.born r →
            (R.phase r = (2 : Int) → (110 : Int) = x) ∧
              (¬R.phase r = (2 : Int) →
                (R.phase r = (3 : Int) → (110 : Int) = x) ∧
                  (¬R.phase r = (3 : Int) →
                    (R.phase r = (1 : Int) → (110 : Int) = x) ∧ (¬R.phase r = (1 : Int) → (110 : Int) = x))))) ∧
      (¬R.pair r < (3 : Int) →
        (R.phase r = (2 : Int) → (110 : Int) = x) ∧
          (¬R.phase r = (2 : Int) →
            (R.phase r = (3 : Int) → (110 : Int) = x) ∧
              (¬R.phase r = (3 : Int) →
                (R.phase r = (1 : Int) → (110 : Int) = x) ∧ (¬R.phase r = (1 : Int) → (110 : Int) = x))))) ∧
  (¬(0 : Int) ≤ R.pair r →
    (R.phase r = (2 : Int) → (110 : Int) = x) ∧
      (¬R.phase r = (2 : Int) →
        (R.phase r = (3 : Int) → (110 : Int) = x) ∧
          (¬R.phase r = (3 : Int) →
            (R.phase r = (1 : Int) → (110 : Int) = x) ∧ (¬R.phase r = (1 : Int) → (110 : Int) = x))))) := by kernel_rfl
theorem vc_alive  : (scallI sx0 Try.prog cf0 (sexec sx0 Try.prog cf0 1000) 4 0 [] (post (.bool (.lit true)))) = (true = true) := by kernel_rfl
theorem check_all (r : R) : scallI sx0 Try.prog cf0 (sexec sx0 Try.prog cf0 1000) 5 0 [r.l] (post (.int .i64 (.sym (checkE r)))) := by
  rw [vc_check]
  obtain ⟨pair, born, epoch, lead, phase, frm, quick, alone⟩ := r
  unfold checkE R.ok
  cases quick
  all_goals
    repeat' first | (intro _) | (refine And.intro ?_ ?_)
  all_goals first | (simp_all; done) | (simp_all; omega)
theorem alive_ok : scallI sx0 Try.prog cf0 (sexec sx0 Try.prog cf0 1000) 4 0 [] (post (.bool (.lit true))) := by
  rw [vc_alive]
theorem sx0_ok : SXOK Try.prog cf0 sx0 := sxok_of all_nil all_nil
def ctCheck : SCall := Ct (fun r : R => [r.l]) (fun _ => True) (fun r => .int .i64 (.sym (checkE r)))
def ctAlive : SCall := Ct (fun _ : Unit => []) (fun _ => True) (fun _ => .bool (.lit true))
theorem ck : CtOK Try.prog cf0 5 ctCheck := ct_vc (m := 1000) sx0_ok fun r _ => check_all r
theorem al : CtOK Try.prog cf0 4 ctAlive := ct_vc (m := 1000) sx0_ok fun _ _ => alive_ok
def sx1 : SX := ⟨fun _ => none, ctOf [(5, ctCheck)], lpOf []⟩
theorem sx1_ok : SXOK Try.prog cf0 sx1 := sxok_of (all_cons ck all_nil) all_nil

end
end Go.Proofs.Ytaefpedblfhabaa.VM
