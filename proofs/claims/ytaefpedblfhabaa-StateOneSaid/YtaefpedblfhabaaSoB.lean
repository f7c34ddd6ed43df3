/- What the table of states answers. No conditions. -/
import Derived.Test.YtaefpedblfhabaaProg
import Derived.KernelRfl
import Derived.Test.YtaefpedblfhabaaSoD
namespace Go.Proofs.Ytaefpedblfhabaa.VM
open Go Go.RowKit
set_option linter.unusedVariables false
set_option linter.unusedSimpArgs false
set_option maxRecDepth 100000
noncomputable section
theorem vc_writes (site : Int) (r : R) (x y : Prop) (z : Int) : (scallI sx1 Try.prog cf0 (sexec sx1 Try.prog cf0 1000) 11 0 [.int .i64 (.sym site), r.l] (post (.tup [.bool (.sym x), .int .i64 (.sym z)]))) = (∃ (y5 : R),
  ((R.pair r = R.pair y5 ∧
        R.born r = R.born y5 ∧
          R.epoch r = R.epoch y5 ∧
            R.lead r = R.lead y5 ∧
              R.phase r = R.phase y5 ∧
                R.frm r = R.frm y5 ∧
                  (R.quick r = true ↔ R.quick y5 = true) ∧ (R.alone r = true ↔ R.alone y5 = true) ∧ True) ∧
      True) ∧
    True ∧
      (¬checkE y5 = (0 : Int) →
          (¬checkE y5 = (0 : Int) → (false = true ↔ x) ∧ checkE y5 = z ∧ True) ∧
            (¬¬checkE y5 = (0 : Int) →
              (R.phase r = (3 : Int) → (true = true ↔ x) ∧ (0 : Int) = z ∧ True) ∧
                (¬R.phase r = (3 : Int) →
                  (R.phase r = (1 : Int) →
                      (site = R.lead r → (¬¬R.frm r = site ↔ x) ∧ (0 : Int) = z ∧ True) ∧
                        (¬site = R.lead r →
                          (¬¬R.frm r = site → (R.alone r = true ↔ x) ∧ (0 : Int) = z ∧ True) ∧
                            (¬¬¬R.frm r = site → (false = true ↔ x) ∧ (0 : Int) = z ∧ True))) ∧
                    (¬R.phase r = (1 : Int) →
                      (site = R.lead r → (true = true ↔ x) ∧ (0 : Int) = z ∧ True) ∧
                        (¬site = R.lead r → (R.alone r = true ↔ x) ∧ (0 : Int) = z ∧ True))))) ∧
        (¬¬checkE y5 = (0 : Int) →
          (¬site = (0 : Int) →
              (¬site = (1 : Int) → (false = true ↔ x) ∧ (2 : Int) = z ∧ True) ∧
                (¬¬site = (1 : Int) →
                  (R.phase r = (3 : Int) → (true = true ↔ x) ∧ (0 : Int) = z ∧ True) ∧
                    (¬R.phase r = (3 : Int) →
                      (R.phase r = (1 : Int) →
                          (site = R.lead r → (¬¬R.frm r = site ↔ x) ∧ (0 : Int) = z ∧ True) ∧
                            (¬site = R.lead r →
                              (¬¬R.frm r = site → (R.alone r = true ↔ x) ∧ (0 : Int) = z ∧ True) ∧
                                (¬¬¬R.frm r = site → (false = true ↔ x) ∧ (0 : Int) = z ∧ True))) ∧
                        (¬R.phase r = (1 : Int) →
                          (site = R.lead r → (true = true ↔ x) ∧ (0 : Int) = z ∧ True) ∧
                            (¬site = R.lead r → (R.alone r = true ↔ x) ∧ (0 : Int) = z ∧ True))))) ∧
            (¬¬site = (0 : Int) →
              (R.phase r = (3 : Int) → (true = true ↔ x) ∧ (0 : Int) = z ∧ True) ∧
                (¬R.phase r = (3 : Int) →
                  (R.phase r = (1 : Int) →
                      (site = R.lead r → (¬¬R.frm r = site ↔ x) ∧ (0 : Int) = z ∧ True) ∧
                        (¬site = R.lead r →
                          (¬¬R.frm r = site → (R.alone r = true ↔ x) ∧ (0 : Int) = z ∧ True) ∧
                            (¬¬¬R.frm r = site → (false = true ↔ x) ∧ (0 : Int) = z ∧ True))) ∧
                    (¬R.phase r = (1 : Int) →
                      (site = R.lead r → (true = true ↔ x) ∧ (0 : Int) = z ∧ True) ∧
                        (¬site = R.lead r → (R.alone r = true ↔ x) ∧ (0 : Int) = z ∧ True)))))) := by kernel_rfl
theorem vc_order (site : Int) (r : R) (op x : Int) : (scallI sx1 Try.prog cf0 (sexec sx1 Try.prog cf0 1000) 8 0 [.int .i64 (.sym site), r.l, .int .u8 (.sym op)] (post (.int .i64 (.sym x)))) = (∃ (y4 : R),
  ((R.pair r = R.pair y4 ∧
        R.born r = R.born y4 ∧
          R.epoch r = R.epoch y4 ∧
            R.lead r = R.lead y4 ∧
              R.phase r = R.phase y4 ∧
                R.frm r = R.frm y4 ∧
                  (R.quick r = true ↔ R.quick y4 = true) ∧ (R.alone r = true ↔ R.alone y4 = true) ∧ True) ∧
      True) ∧
    True ∧
      (¬checkE y4 = (0 : Int) →
          (¬checkE y4 = (0 : Int) → checkE y4 = x) ∧
            (¬¬checkE y4 = (0 : Int) →
              (R.phase r = (1 : Int) →
                  (op = (2 : Int) →
                      (site = R.lead r →
                          (R.phase r = (2 : Int) →
                              (¬¬R.alone r = true → (190 : Int) = x) ∧ (¬¬¬R.alone r = true → (0 : Int) = x)) ∧
                            (¬R.phase r = (2 : Int) → (190 : Int) = x)) ∧
                        (¬site = R.lead r → (190 : Int) = x)) ∧
                    (¬op = (2 : Int) →
                      (op = (3 : Int) →
                          (site = R.lead r →
                              (R.phase r = (3 : Int) →
                                  (¬¬¬R.frm r = site → (190 : Int) = x) ∧ (¬¬¬¬R.frm r = site → (0 : Int) = x)) ∧
                                (¬R.phase r = (3 : Int) →
                                  (R.alone r = true →
                                      (¬¬¬R.frm r = site → (190 : Int) = x) ∧ (¬¬¬¬R.frm r = site → (0 : Int) = x)) ∧
                                    (¬R.alone r = true → (190 : Int) = x))) ∧
                            (¬site = R.lead r → (190 : Int) = x)) ∧
                        (¬op = (3 : Int) →
                          (op = (4 : Int) →
                              (site = R.lead r →
                                  (R.phase r = (3 : Int) →
                                      (¬R.alone r = true → (0 : Int) = x) ∧
                                        (¬¬R.alone r = true →
                                          (¬R.frm r = site →
                                              (¬R.alone r = true → (190 : Int) = x) ∧
                                                (¬¬R.alone r = true → (0 : Int) = x)) ∧
                                            (¬¬R.frm r = site → (190 : Int) = x))) ∧
                                    (¬R.phase r = (3 : Int) →
                                      (¬R.frm r = site →
                                          (¬R.alone r = true → (190 : Int) = x) ∧
                                            (¬¬R.alone r = true → (0 : Int) = x)) ∧
                                        (¬¬R.frm r = site → (190 : Int) = x))) ∧
                                (¬site = R.lead r → (190 : Int) = x)) ∧
                            (¬op = (4 : Int) →
                              (op = (5 : Int) →
                                  (site = R.lead r →
                                      (R.phase r = (3 : Int) →
                                          (¬R.alone r = true → (0 : Int) = x) ∧
                                            (¬¬R.alone r = true →
                                              (¬R.frm r = site →
                                                  (¬R.alone r = true → (190 : Int) = x) ∧
                                                    (¬¬R.alone r = true → (0 : Int) = x)) ∧
                                                (¬¬R.frm r = site → (190 : Int) = x))) ∧
                                        (¬R.phase r = (3 : Int) →
                                          (¬R.frm r = site →
                                              (¬R.alone r = true → (190 : Int) = x) ∧
                                                (¬¬R.alone r = true → (0 : Int) = x)) ∧
                                            (¬¬R.frm r = site → (190 : Int) = x))) ∧
                                    (¬site = R.lead r → (190 : Int) = x)) ∧
                                (¬op = (5 : Int) →
                                  (op = (6 : Int) →
                                      (¬site = R.lead r →
                                          (R.phase r = (3 : Int) → (0 : Int) = x) ∧
                                            (¬R.phase r = (3 : Int) →
                                              (¬R.alone r = true → (190 : Int) = x) ∧
                                                (¬¬R.alone r = true → (0 : Int) = x))) ∧
                                        (¬¬site = R.lead r → (190 : Int) = x)) ∧
                                    (¬op = (6 : Int) →
                                      (op = (7 : Int) →
                                          (¬site = R.lead r →
                                              (R.phase r = (2 : Int) →
                                                  (¬¬R.alone r = true → (190 : Int) = x) ∧
                                                    (¬¬¬R.alone r = true → (0 : Int) = x)) ∧
                                                (¬R.phase r = (2 : Int) → (190 : Int) = x)) ∧
                                            (¬¬site = R.lead r → (190 : Int) = x)) ∧
                                        (¬op = (7 : Int) →
                                          (R.phase r = (1 : Int) →
                                              (¬¬R.frm r = site →
                                                  (¬¬R.alone r = true → (190 : Int) = x) ∧
                                                    (¬¬¬R.alone r = true → (0 : Int) = x)) ∧
                                                (¬¬¬R.frm r = site → (190 : Int) = x)) ∧
                                            (¬R.phase r = (1 : Int) → (190 : Int) = x)))))))) ∧
                (¬R.phase r = (1 : Int) →
                  (op = (2 : Int) →
                      (site = R.lead r →
                          (R.phase r = (2 : Int) →
                              (¬¬R.alone r = true → (190 : Int) = x) ∧ (¬¬¬R.alone r = true → (0 : Int) = x)) ∧
                            (¬R.phase r = (2 : Int) → (190 : Int) = x)) ∧
                        (¬site = R.lead r → (190 : Int) = x)) ∧
                    (¬op = (2 : Int) →
                      (op = (3 : Int) →
                          (site = R.lead r →
                              (R.phase r = (3 : Int) → (0 : Int) = x) ∧
                                (¬R.phase r = (3 : Int) →
                                  (R.alone r = true → (0 : Int) = x) ∧ (¬R.alone r = true → (190 : Int) = x))) ∧
                            (¬site = R.lead r → (190 : Int) = x)) ∧
                        (¬op = (3 : Int) →
                          (op = (4 : Int) →
                              (site = R.lead r →
                                  (R.phase r = (3 : Int) →
                                      (¬R.alone r = true → (0 : Int) = x) ∧ (¬¬R.alone r = true → (190 : Int) = x)) ∧
                                    (¬R.phase r = (3 : Int) → (190 : Int) = x)) ∧
                                (¬site = R.lead r → (190 : Int) = x)) ∧
                            (¬op = (4 : Int) →
                              (op = (5 : Int) →
                                  (site = R.lead r →
                                      (R.phase r = (3 : Int) →
                                          (¬R.alone r = true → (0 : Int) = x) ∧
                                            (¬¬R.alone r = true → (190 : Int) = x)) ∧
                                        (¬R.phase r = (3 : Int) → (190 : Int) = x)) ∧
                                    (¬site = R.lead r → (190 : Int) = x)) ∧
                                (¬op = (5 : Int) →
                                  (op = (6 : Int) →
                                      (¬site = R.lead r →
                                          (R.phase r = (3 : Int) → (0 : Int) = x) ∧
                                            (¬R.phase r = (3 : Int) →
                                              (¬R.alone r = true → (190 : Int) = x) ∧
                                                (¬¬R.alone r = true → (0 : Int) = x))) ∧
                                        (¬¬site = R.lead r → (190 : Int) = x)) ∧
                                    (¬op = (6 : Int) →
                                      (op = (7 : Int) →
                                          (¬site = R.lead r →
                                              (R.phase r = (2 : Int) →
                                                  (¬¬R.alone r = true → (190 : Int) = x) ∧
                                                    (¬¬¬R.alone r = true → (0 : Int) = x)) ∧
                                                (¬R.phase r = (2 : Int) → (190 : Int) = x)) ∧
                                            (¬¬site = R.lead r → (190 : Int) = x)) ∧
                                        (¬op = (7 : Int) →
                                          (R.phase r = (1 : Int) →
                                              (¬¬R.alone r = true → (190 : Int) = x) ∧
                                                (¬¬¬R.alone r = true → (0 : Int) = x)) ∧
                                            (¬R.phase r = (1 : Int) → (190 : Int) = x)))))))))) ∧
        (¬¬checkE y4 = (0 : Int) →
          (¬site = (0 : Int) →
              (¬site = (1 : Int) → (2 : Int) = x) ∧
                (¬¬site = (1 : Int) →
                  (op < (2 : Int) → (2 : Int) = x) ∧
                    (¬op < (2 : Int) →
                      ((8 : Int) < op → (2 : Int) = x) ∧
                        (¬(8 : Int) < op →
                          (R.phase r = (1 : Int) →
                              (op = (2 : Int) →
                                  (site = R.lead r →
                                      (R.phase r = (2 : Int) →
                                          (¬¬R.alone r = true → (190 : Int) = x) ∧
                                            (¬¬¬R.alone r = true → (0 : Int) = x)) ∧
                                        (¬R.phase r = (2 : Int) → (190 : Int) = x)) ∧
                                    (¬site = R.lead r → (190 : Int) = x)) ∧
                                (¬op = (2 : Int) →
                                  (op = (3 : Int) →
                                      (site = R.lead r →
                                          (R.phase r = (3 : Int) →
                                              (¬¬¬R.frm r = site → (190 : Int) = x) ∧
                                                (¬¬¬¬R.frm r = site → (0 : Int) = x)) ∧
                                            (¬R.phase r = (3 : Int) →
                                              (R.alone r = true →
                                                  (¬¬¬R.frm r = site → (190 : Int) = x) ∧
                                                    (¬¬¬¬R.frm r = site → (0 : Int) = x)) ∧
                                                (¬R.alone r = true → (190 : Int) = x))) ∧
                                        (¬site = R.lead r → (190 : Int) = x)) ∧
                                    (¬op = (3 : Int) →
                                      (op = (4 : Int) →
                                          (site = R.lead r →
                                              (R.phase r = (3 : Int) →
                                                  (¬R.alone r = true → (0 : Int) = x) ∧
                                                    (¬¬R.alone r = true →
                                                      (¬R.frm r = site →
                                                          (¬R.alone r = true → (190 : Int) = x) ∧
                                                            (¬¬R.alone r = true → (0 : Int) = x)) ∧
                                                        (¬¬R.frm r = site → (190 : Int) = x))) ∧
                                                (¬R.phase r = (3 : Int) →
                                                  (¬R.frm r = site →
                                                      (¬R.alone r = true → (190 : Int) = x) ∧
                                                        (¬¬R.alone r = true → (0 : Int) = x)) ∧
                                                    (¬¬R.frm r = site → (190 : Int) = x))) ∧
                                            (¬site = R.lead r → (190 : Int) = x)) ∧
                                        (¬op = (4 : Int) →
                                          (op = (5 : Int) →
                                              (site = R.lead r →
                                                  (R.phase r = (3 : Int) →
                                                      (¬R.alone r = true → (0 : Int) = x) ∧
                                                        (¬¬R.alone r = true →
                                                          (¬R.frm r = site →
                                                              (¬R.alone r = true → (190 : Int) = x) ∧
                                                                (¬¬R.alone r = true → (0 : Int) = x)) ∧
                                                            (¬¬R.frm r = site → (190 : Int) = x))) ∧
                                                    (¬R.phase r = (3 : Int) →
                                                      (¬R.frm r = site →
                                                          (¬R.alone r = true → (190 : Int) = x) ∧
                                                            (¬¬R.alone r = true → (0 : Int) = x)) ∧
                                                        (¬¬R.frm r = site → (190 : Int) = x))) ∧
                                                (¬site = R.lead r → (190 : Int) = x)) ∧
                                            (¬op = (5 : Int) →
                                              (op = (6 : Int) →
                                                  (¬site = R.lead r →
                                                      (R.phase r = (3 : Int) → (0 : Int) = x) ∧
                                                        (¬R.phase r = (3 : Int) →
                                                          (¬R.alone r = true → (190 : Int) = x) ∧
                                                            (¬¬R.alone r = true → (0 : Int) = x))) ∧
                                                    (¬¬site = R.lead r → (190 : Int) = x)) ∧
                                                (¬op = (6 : Int) →
                                                  (op = (7 : Int) →
                                                      (¬site = R.lead r →
                                                          (R.phase r = (2 : Int) →
                                                              (¬¬R.alone r = true → (190 : Int) = x) ∧
                                                                (¬¬¬R.alone r = true → (0 : Int) = x)) ∧
                                                            (¬R.phase r = (2 : Int) → (190 : Int) = x)) ∧
                                                        (¬¬site = R.lead r → (190 : Int) = x)) ∧
                                                    (¬op = (7 : Int) →
                                                      (R.phase r = (1 : Int) →
                                                          (¬¬R.frm r = site →
                                                              (¬¬R.alone r = true → (190 : Int) = x) ∧
                                                                (¬¬¬R.alone r = true → (0 : Int) = x)) ∧
                                                            (¬¬¬R.frm r = site → (190 : Int) = x)) ∧
                                                        (¬R.phase r = (1 : Int) → (190 : Int) = x)))))))) ∧
                            (¬R.phase r = (1 : Int) →
                              (op = (2 : Int) →
                                  (site = R.lead r →
                                      (R.phase r = (2 : Int) →
                                          (¬¬R.alone r = true → (190 : Int) = x) ∧
                                            (¬¬¬R.alone r = true → (0 : Int) = x)) ∧
                                        (¬R.phase r = (2 : Int) → (190 : Int) = x)) ∧
                                    (¬site = R.lead r → (190 : Int) = x)) ∧
                                (¬op = (2 : Int) →
                                  (op = (3 : Int) →
                                      (site = R.lead r →
                                          (R.phase r = (3 : Int) → (0 : Int) = x) ∧
                                            (¬R.phase r = (3 : Int) →
                                              (R.alone r = true → (0 : Int) = x) ∧
                                                (¬R.alone r = true → (190 : Int) = x))) ∧
                                        (¬site = R.lead r → (190 : Int) = x)) ∧
                                    (¬op = (3 : Int) →
                                      (op = (4 : Int) →
                                          (site = R.lead r →
                                              (R.phase r = (3 : Int) →
                                                  (¬R.alone r = true → (0 : Int) = x) ∧
                                                    (¬¬R.alone r = true → (190 : Int) = x)) ∧
                                                (¬R.phase r = (3 : Int) → (190 : Int) = x)) ∧
                                            (¬site = R.lead r → (190 : Int) = x)) ∧
                                        (¬op = (4 : Int) →
                                          (op = (5 : Int) →
                                              (site = R.lead r →
                                                  (R.phase r = (3 : Int) →
                                                      (¬R.alone r = true → (0 : Int) = x) ∧
                                                        (¬¬R.alone r = true → (190 : Int) = x)) ∧
                                                    (¬R.phase r = (3 : Int) → (190 : Int) = x)) ∧
                                                (¬site = R.lead r → (190 : Int) = x)) ∧
                                            (¬op = (5 : Int) →
                                              (op = (6 : Int) →
                                                  (¬site = R.lead r →
                                                      (R.phase r = (3 : Int) → (0 : Int) = x) ∧
                                                        (¬R.phase r = (3 : Int) →
                                                          (¬R.alone r = true → (190 : Int) = x) ∧
                                                            (¬¬R.alone r = true → (0 : Int) = x))) ∧
                                                    (¬¬site = R.lead r → (190 : Int) = x)) ∧
                                                (¬op = (6 : Int) →
                                                  (op = (7 : Int) →
                                                      (¬site = R.lead r →
                                                          (R.phase r = (2 : Int) →
                                                              (¬¬R.alone r = true → (190 : Int) = x) ∧
                                                                (¬¬¬R.alone r = true → (0 : Int) = x)) ∧
                                                            (¬R.phase r = (2 : Int) → (190 : Int) = x)) ∧
                                                        (¬¬site = R.lead r → (190 : Int) = x)) ∧
                                                    (¬op = (7 : Int) →
                                                      (R.phase r = (1 : Int) →
                                                          (¬¬R.alone r = true → (190 : Int) = x) ∧
                                                            (¬¬¬R.alone r = true → (0 : Int) = x)) ∧
                                                        (¬R.phase r = (1 : Int) → (190 : Int) = x)))))))))))) ∧
            (¬¬site = (0 : Int) →
              (op < (2 : Int) → (2 : Int) = x) ∧
                (¬op < (2 : Int) →
                  ((8 : Int) < op → (2 : Int) = x) ∧
                    (¬(8 : Int) < op →
                      (R.phase r = (1 : Int) →
                          (op = (2 : Int) →
                              (site = R.lead r →
                                  (R.phase r = (2 : Int) →
                                      (¬¬R.alone r = true → (190 : Int) = x) ∧ (¬¬¬R.alone r = true → (0 : Int) = x)) ∧
                                    (¬R.phase r = (2 : Int) → (190 : Int) = x)) ∧
                                (¬site = R.lead r → (190 : Int) = x)) ∧
                            (¬op = (2 : Int) →
                              (op = (3 : Int) →
                                  (site = R.lead r →
                                      (R.phase r = (3 : Int) →
                                          (¬¬¬R.frm r = site → (190 : Int) = x) ∧
                                            (¬¬¬¬R.frm r = site → (0 : Int) = x)) ∧
                                        (¬R.phase r = (3 : Int) →
                                          (R.alone r = true →
                                              (¬¬¬R.frm r = site → (190 : Int) = x) ∧
                                                (¬¬¬¬R.frm r = site → (0 : Int) = x)) ∧
                                            (¬R.alone r = true → (190 : Int) = x))) ∧
                                    (¬site = R.lead r → (190 : Int) = x)) ∧
                                (¬op = (3 : Int) →
                                  (op = (4 : Int) →
                                      (site = R.lead r →
                                          (R.phase r = (3 : Int) →
                                              (¬R.alone r = true → (0 : Int) = x) ∧
                                                (¬¬R.alone r = true →
                                                  (¬R.frm r = site →
                                                      (¬R.alone r = true → (190 : Int) = x) ∧
                                                        (¬¬R.alone r = true → (0 : Int) = x)) ∧
                                                    (¬¬R.frm r = site → (190 : Int) = x))) ∧
                                            (¬R.phase r = (3 : Int) →
                                              (¬R.frm r = site →
                                                  (¬R.alone r = true → (190 : Int) = x) ∧
                                                    (¬¬R.alone r = true → (0 : Int) = x)) ∧
                                                (¬¬R.frm r = site → (190 : Int) = x))) ∧
                                        (¬site = R.lead r → (190 : Int) = x)) ∧
                                    (¬op = (4 : Int) →
                                      (op = (5 : Int) →
                                          (site = R.lead r →
                                              (R.phase r = (3 : Int) →
                                                  (¬R.alone r = true → (0 : Int) = x) ∧
                                                    (¬¬R.alone r = true →
                                                      (¬R.frm r = site →
                                                          (¬R.alone r = true → (190 : Int) = x) ∧
                                                            (¬¬R.alone r = true → (0 : Int) = x)) ∧
                                                        (¬¬R.frm r = site → (190 : Int) = x))) ∧
                                                (¬R.phase r = (3 : Int) →
                                                  (¬R.frm r = site →
                                                      (¬R.alone r = true → (190 : Int) = x) ∧
                                                        (¬¬R.alone r = true → (0 : Int) = x)) ∧
                                                    (¬¬R.frm r = site → (190 : Int) = x))) ∧
                                            (¬site = R.lead r → (190 : Int) = x)) ∧
                                        (¬op = (5 : Int) →
                                          (op = (6 : Int) →
                                              (¬site = R.lead r →
                                                  (R.phase r = (3 : Int) → (0 : Int) = x) ∧
                                                    (¬R.phase r = (3 : Int) →
                                                      (¬R.alone r = true → (190 : Int) = x) ∧
                                                        (¬¬R.alone r = true → (0 : Int) = x))) ∧
                                                (¬¬site = R.lead r → (190 : Int) = x)) ∧
                                            (¬op = (6 : Int) →
                                              (op = (7 : Int) →
                                                  (¬site = R.lead r →
                                                      (R.phase r = (2 : Int) →
                                                          (¬¬R.alone r = true → (190 : Int) = x) ∧
                                                            (¬¬¬R.alone r = true → (0 : Int) = x)) ∧
                                                        (¬R.phase r = (2 : Int) → (190 : Int) = x)) ∧
                                                    (¬¬site = R.lead r → (190 : Int) = x)) ∧
                                                (¬op = (7 : Int) →
                                                  (R.phase r = (1 : Int) →
                                                      (¬¬R.frm r = site →
                                                          (¬¬R.alone r = true → (190 : Int) = x) ∧
                                                            (¬¬¬R.alone r = true → (0 : Int) = x)) ∧
                                                        (¬¬¬R.frm r = site → (190 : Int) = x)) ∧
                                                    (¬R.phase r = (1 : Int) → (190 : Int) = x)))))))) ∧
                        (¬R.phase r = (1 : Int) →
                          (op = (2 : Int) →
                              (site = R.lead r →
                                  (R.phase r = (2 : Int) →
                                      (¬¬R.alone r = true → (190 : Int) = x) ∧ (¬¬¬R.alone r = true → (0 : Int) = x)) ∧
                                    (¬R.phase r = (2 : Int) → (190 : Int) = x)) ∧
                                (¬site = R.lead r → (190 : Int) = x)) ∧
                            (¬op = (2 : Int) →
                              (op = (3 : Int) →
                                  (site = R.lead r →
                                      (R.phase r = (3 : Int) → (0 : Int) = x) ∧
                                        (¬R.phase r = (3 : Int) →
                                          (R.alone r = true → (0 : Int) = x) ∧ (¬R.alone r = true → (190 : Int) = x))) ∧
                                    (¬site = R.lead r → (190 : Int) = x)) ∧
                                (¬op = (3 : Int) →
                                  (op = (4 : Int) →
                                      (site = R.lead r →
                                          (R.phase r = (3 : Int) →
                                              (¬R.alone r = true → (0 : Int) = x) ∧
                                                (¬¬R.alone r = true → (190 : Int) = x)) ∧
                                            (¬R.phase r = (3 : Int) → (190 : Int) = x)) ∧
                                        (¬site = R.lead r → (190 : Int) = x)) ∧
                                    (¬op = (4 : Int) →
                                      (op = (5 : Int) →
                                          (site = R.lead r →
                                              (R.phase r = (3 : Int) →
                                                  (¬R.alone r = true → (0 : Int) = x) ∧
                                                    (¬¬R.alone r = true → (190 : Int) = x)) ∧
                                                (¬R.phase r = (3 : Int) → (190 : Int) = x)) ∧
                                            (¬site = R.lead r → (190 : Int) = x)) ∧
                                        (¬op = (5 : Int) →
                                          (op = (6 : Int) →
                                              (¬site = R.lead r →
                                                  (R.phase r = (3 : Int) → (0 : Int) = x) ∧
                                                    (¬R.phase r = (3 : Int) →
                                                      (¬R.alone r = true → (190 : Int) = x) ∧
                                                        (¬¬R.alone r = true → (0 : Int) = x))) ∧
                                                (¬¬site = R.lead r → (190 : Int) = x)) ∧
                                            (¬op = (6 : Int) →
                                              (op = (7 : Int) →
                                                  (¬site = R.lead r →
                                                      (R.phase r = (2 : Int) →
                                                          (¬¬R.alone r = true → (190 : Int) = x) ∧
                                                            (¬¬¬R.alone r = true → (0 : Int) = x)) ∧
                                                        (¬R.phase r = (2 : Int) → (190 : Int) = x)) ∧
                                                    (¬¬site = R.lead r → (190 : Int) = x)) ∧
                                                (¬op = (7 : Int) →
                                                  (R.phase r = (1 : Int) →
                                                      (¬¬R.alone r = true → (190 : Int) = x) ∧
                                                        (¬¬¬R.alone r = true → (0 : Int) = x)) ∧
                                                    (¬R.phase r = (1 : Int) → (190 : Int) = x))))))))))))) := by kernel_rfl
theorem vc_join (site : Int) (r : R) (op x : Int) : (scallI sx1 Try.prog cf0 (sexec sx1 Try.prog cf0 1000) 9 0 [.int .i64 (.sym site), r.l, .int .u8 (.sym op)] (post (.int .i64 (.sym x)))) = (∃ (y4 : R),
  ((R.pair r = R.pair y4 ∧
        R.born r = R.born y4 ∧
          R.epoch r = R.epoch y4 ∧
            R.lead r = R.lead y4 ∧
              R.phase r = R.phase y4 ∧
                R.frm r = R.frm y4 ∧
                  (R.quick r = true ↔ R.quick y4 = true) ∧ (R.alone r = true ↔ R.alone y4 = true) ∧ True) ∧
      True) ∧
    True ∧
      (¬checkE y4 = (0 : Int) →
          (¬checkE y4 = (0 : Int) → checkE y4 = x) ∧
            (¬¬checkE y4 = (0 : Int) →
              (R.phase r = (1 : Int) →
                  (op = (2 : Int) →
                      (¬site = R.lead r →
                          (R.phase r = (2 : Int) →
                              (¬¬R.alone r = true → (190 : Int) = x) ∧ (¬¬¬R.alone r = true → (0 : Int) = x)) ∧
                            (¬R.phase r = (2 : Int) → (190 : Int) = x)) ∧
                        (¬¬site = R.lead r → (190 : Int) = x)) ∧
                    (¬op = (2 : Int) →
                      (op = (3 : Int) → (¬¬site = R.lead r → (190 : Int) = x) ∧ (¬¬¬site = R.lead r → (0 : Int) = x)) ∧
                        (¬op = (3 : Int) →
                          (op = (4 : Int) →
                              (¬site = R.lead r →
                                  (¬R.alone r = true →
                                      (R.phase r = (3 : Int) → (0 : Int) = x) ∧
                                        (¬R.phase r = (3 : Int) →
                                          (R.phase r = (1 : Int) →
                                              (¬¬¬R.frm r = site → (190 : Int) = x) ∧
                                                (¬¬¬¬R.frm r = site → (0 : Int) = x)) ∧
                                            (¬R.phase r = (1 : Int) → (190 : Int) = x))) ∧
                                    (¬¬R.alone r = true → (190 : Int) = x)) ∧
                                (¬¬site = R.lead r → (190 : Int) = x)) ∧
                            (¬op = (4 : Int) →
                              (op = (5 : Int) →
                                  (¬site = R.lead r →
                                      (¬R.alone r = true →
                                          (R.phase r = (3 : Int) → (0 : Int) = x) ∧
                                            (¬R.phase r = (3 : Int) →
                                              (R.phase r = (1 : Int) →
                                                  (¬¬¬R.frm r = site → (190 : Int) = x) ∧
                                                    (¬¬¬¬R.frm r = site → (0 : Int) = x)) ∧
                                                (¬R.phase r = (1 : Int) → (190 : Int) = x))) ∧
                                        (¬¬R.alone r = true → (190 : Int) = x)) ∧
                                    (¬¬site = R.lead r → (190 : Int) = x)) ∧
                                (¬op = (5 : Int) →
                                  (op = (6 : Int) →
                                      (¬site = R.lead r → (190 : Int) = x) ∧ (¬¬site = R.lead r → (0 : Int) = x)) ∧
                                    (¬op = (6 : Int) →
                                      (op = (7 : Int) →
                                          (site = R.lead r →
                                              (R.phase r = (2 : Int) →
                                                  (¬¬R.alone r = true → (190 : Int) = x) ∧
                                                    (¬¬¬R.alone r = true → (0 : Int) = x)) ∧
                                                (¬R.phase r = (2 : Int) → (190 : Int) = x)) ∧
                                            (¬site = R.lead r → (190 : Int) = x)) ∧
                                        (¬op = (7 : Int) →
                                          (¬R.frm r = site →
                                              (¬¬R.alone r = true → (190 : Int) = x) ∧
                                                (¬¬¬R.alone r = true → (0 : Int) = x)) ∧
                                            (¬¬R.frm r = site → (190 : Int) = x)))))))) ∧
                (¬R.phase r = (1 : Int) →
                  (op = (2 : Int) →
                      (¬site = R.lead r →
                          (R.phase r = (2 : Int) →
                              (¬¬R.alone r = true → (190 : Int) = x) ∧ (¬¬¬R.alone r = true → (0 : Int) = x)) ∧
                            (¬R.phase r = (2 : Int) → (190 : Int) = x)) ∧
                        (¬¬site = R.lead r → (190 : Int) = x)) ∧
                    (¬op = (2 : Int) →
                      (op = (3 : Int) → (¬¬site = R.lead r → (190 : Int) = x) ∧ (¬¬¬site = R.lead r → (0 : Int) = x)) ∧
                        (¬op = (3 : Int) →
                          (op = (4 : Int) →
                              (¬site = R.lead r →
                                  (¬R.alone r = true →
                                      (R.phase r = (3 : Int) → (0 : Int) = x) ∧
                                        (¬R.phase r = (3 : Int) →
                                          (R.phase r = (1 : Int) → (0 : Int) = x) ∧
                                            (¬R.phase r = (1 : Int) → (190 : Int) = x))) ∧
                                    (¬¬R.alone r = true → (190 : Int) = x)) ∧
                                (¬¬site = R.lead r → (190 : Int) = x)) ∧
                            (¬op = (4 : Int) →
                              (op = (5 : Int) →
                                  (¬site = R.lead r →
                                      (¬R.alone r = true →
                                          (R.phase r = (3 : Int) → (0 : Int) = x) ∧
                                            (¬R.phase r = (3 : Int) →
                                              (R.phase r = (1 : Int) → (0 : Int) = x) ∧
                                                (¬R.phase r = (1 : Int) → (190 : Int) = x))) ∧
                                        (¬¬R.alone r = true → (190 : Int) = x)) ∧
                                    (¬¬site = R.lead r → (190 : Int) = x)) ∧
                                (¬op = (5 : Int) →
                                  (op = (6 : Int) →
                                      (¬site = R.lead r → (190 : Int) = x) ∧ (¬¬site = R.lead r → (0 : Int) = x)) ∧
                                    (¬op = (6 : Int) →
                                      (op = (7 : Int) →
                                          (site = R.lead r →
                                              (R.phase r = (2 : Int) →
                                                  (¬¬R.alone r = true → (190 : Int) = x) ∧
                                                    (¬¬¬R.alone r = true → (0 : Int) = x)) ∧
                                                (¬R.phase r = (2 : Int) → (190 : Int) = x)) ∧
                                            (¬site = R.lead r → (190 : Int) = x)) ∧
                                        (¬op = (7 : Int) → (190 : Int) = x))))))))) ∧
        (¬¬checkE y4 = (0 : Int) →
          (¬site = (0 : Int) →
              (¬site = (1 : Int) → (2 : Int) = x) ∧
                (¬¬site = (1 : Int) →
                  (op < (2 : Int) → (2 : Int) = x) ∧
                    (¬op < (2 : Int) →
                      ((8 : Int) < op → (2 : Int) = x) ∧
                        (¬(8 : Int) < op →
                          (R.phase r = (1 : Int) →
                              (op = (2 : Int) →
                                  (¬site = R.lead r →
                                      (R.phase r = (2 : Int) →
                                          (¬¬R.alone r = true → (190 : Int) = x) ∧
                                            (¬¬¬R.alone r = true → (0 : Int) = x)) ∧
                                        (¬R.phase r = (2 : Int) → (190 : Int) = x)) ∧
                                    (¬¬site = R.lead r → (190 : Int) = x)) ∧
                                (¬op = (2 : Int) →
                                  (op = (3 : Int) →
                                      (¬¬site = R.lead r → (190 : Int) = x) ∧ (¬¬¬site = R.lead r → (0 : Int) = x)) ∧
                                    (¬op = (3 : Int) →
                                      (op = (4 : Int) →
                                          (¬site = R.lead r →
                                              (¬R.alone r = true →
                                                  (R.phase r = (3 : Int) → (0 : Int) = x) ∧
                                                    (¬R.phase r = (3 : Int) →
                                                      (R.phase r = (1 : Int) →
                                                          (¬¬¬R.frm r = site → (190 : Int) = x) ∧
                                                            (¬¬¬¬R.frm r = site → (0 : Int) = x)) ∧
                                                        (¬R.phase r = (1 : Int) → (190 : Int) = x))) ∧
                                                (¬¬R.alone r = true → (190 : Int) = x)) ∧
                                            (¬¬site = R.lead r → (190 : Int) = x)) ∧
                                        (¬op = (4 : Int) →
                                          (op = (5 : Int) →
                                              (¬site = R.lead r →
                                                  (¬R.alone r = true →
                                                      (R.phase r = (3 : Int) → (0 : Int) = x) ∧
                                                        (¬R.phase r = (3 : Int) →
                                                          (R.phase r = (1 : Int) →
                                                              (¬¬¬R.frm r = site → (190 : Int) = x) ∧
                                                                (¬¬¬¬R.frm r = site → (0 : Int) = x)) ∧
                                                            (¬R.phase r = (1 : Int) → (190 : Int) = x))) ∧
                                                    (¬¬R.alone r = true → (190 : Int) = x)) ∧
                                                (¬¬site = R.lead r → (190 : Int) = x)) ∧
                                            (¬op = (5 : Int) →
                                              (op = (6 : Int) →
                                                  (¬site = R.lead r → (190 : Int) = x) ∧
                                                    (¬¬site = R.lead r → (0 : Int) = x)) ∧
                                                (¬op = (6 : Int) →
                                                  (op = (7 : Int) →
                                                      (site = R.lead r →
                                                          (R.phase r = (2 : Int) →
                                                              (¬¬R.alone r = true → (190 : Int) = x) ∧
                                                                (¬¬¬R.alone r = true → (0 : Int) = x)) ∧
                                                            (¬R.phase r = (2 : Int) → (190 : Int) = x)) ∧
                                                        (¬site = R.lead r → (190 : Int) = x)) ∧
                                                    (¬op = (7 : Int) →
                                                      (¬R.frm r = site →
                                                          (¬¬R.alone r = true → (190 : Int) = x) ∧
                                                            (¬¬¬R.alone r = true → (0 : Int) = x)) ∧
                                                        (¬¬R.frm r = site → (190 : Int) = x)))))))) ∧
                            (¬R.phase r = (1 : Int) →
                              (op = (2 : Int) →
                                  (¬site = R.lead r →
                                      (R.phase r = (2 : Int) →
                                          (¬¬R.alone r = true → (190 : Int) = x) ∧
                                            (¬¬¬R.alone r = true → (0 : Int) = x)) ∧
                                        (¬R.phase r = (2 : Int) → (190 : Int) = x)) ∧
                                    (¬¬site = R.lead r → (190 : Int) = x)) ∧
                                (¬op = (2 : Int) →
                                  (op = (3 : Int) →
                                      (¬¬site = R.lead r → (190 : Int) = x) ∧ (¬¬¬site = R.lead r → (0 : Int) = x)) ∧
                                    (¬op = (3 : Int) →
                                      (op = (4 : Int) →
                                          (¬site = R.lead r →
                                              (¬R.alone r = true →
                                                  (R.phase r = (3 : Int) → (0 : Int) = x) ∧
                                                    (¬R.phase r = (3 : Int) →
                                                      (R.phase r = (1 : Int) → (0 : Int) = x) ∧
                                                        (¬R.phase r = (1 : Int) → (190 : Int) = x))) ∧
                                                (¬¬R.alone r = true → (190 : Int) = x)) ∧
                                            (¬¬site = R.lead r → (190 : Int) = x)) ∧
                                        (¬op = (4 : Int) →
                                          (op = (5 : Int) →
                                              (¬site = R.lead r →
                                                  (¬R.alone r = true →
                                                      (R.phase r = (3 : Int) → (0 : Int) = x) ∧
                                                        (¬R.phase r = (3 : Int) →
                                                          (R.phase r = (1 : Int) → (0 : Int) = x) ∧
                                                            (¬R.phase r = (1 : Int) → (190 : Int) = x))) ∧
                                                    (¬¬R.alone r = true → (190 : Int) = x)) ∧
                                                (¬¬site = R.lead r → (190 : Int) = x)) ∧
                                            (¬op = (5 : Int) →
                                              (op = (6 : Int) →
                                                  (¬site = R.lead r → (190 : Int) = x) ∧
                                                    (¬¬site = R.lead r → (0 : Int) = x)) ∧
                                                (¬op = (6 : Int) →
                                                  (op = (7 : Int) →
                                                      (site = R.lead r →
                                                          (R.phase r = (2 : Int) →
                                                              (¬¬R.alone r = true → (190 : Int) = x) ∧
                                                                (¬¬¬R.alone r = true → (0 : Int) = x)) ∧
                                                            (¬R.phase r = (2 : Int) → (190 : Int) = x)) ∧
                                                        (¬site = R.lead r → (190 : Int) = x)) ∧
                                                    (¬op = (7 : Int) → (190 : Int) = x))))))))))) ∧
            (¬¬site = (0 : Int) →
              (op < (2 : Int) → (2 : Int) = x) ∧
                (¬op < (2 : Int) →
                  ((8 : Int) < op → (2 : Int) = x) ∧
                    (¬(8 : Int) < op →
                      (R.phase r = (1 : Int) →
                          (op = (2 : Int) →
                              (¬site = R.lead r →
                                  (R.phase r = (2 : Int) →
                                      (¬¬R.alone r = true → (190 : Int) = x) ∧ (¬¬¬R.alone r = true → (0 : Int) = x)) ∧
                                    (¬R.phase r = (2 : Int) → (190 : Int) = x)) ∧
                                (¬¬site = R.lead r → (190 : Int) = x)) ∧
                            (¬op = (2 : Int) →
                              (op = (3 : Int) →
                                  (¬¬site = R.lead r → (190 : Int) = x) ∧ (¬¬¬site = R.lead r → (0 : Int) = x)) ∧
                                (¬op = (3 : Int) →
                                  (op = (4 : Int) →
                                      (¬site = R.lead r →
                                          (¬R.alone r = true →
                                              (R.phase r = (3 : Int) → (0 : Int) = x) ∧
                                                (¬R.phase r = (3 : Int) →
                                                  (R.phase r = (1 : Int) →
                                                      (¬¬¬R.frm r = site → (190 : Int) = x) ∧
                                                        (¬¬¬¬R.frm r = site → (0 : Int) = x)) ∧
                                                    (¬R.phase r = (1 : Int) → (190 : Int) = x))) ∧
                                            (¬¬R.alone r = true → (190 : Int) = x)) ∧
                                        (¬¬site = R.lead r → (190 : Int) = x)) ∧
                                    (¬op = (4 : Int) →
                                      (op = (5 : Int) →
                                          (¬site = R.lead r →
                                              (¬R.alone r = true →
                                                  (R.phase r = (3 : Int) → (0 : Int) = x) ∧
                                                    (¬R.phase r = (3 : Int) →
                                                      (R.phase r = (1 : Int) →
                                                          (¬¬¬R.frm r = site → (190 : Int) = x) ∧
                                                            (¬¬¬¬R.frm r = site → (0 : Int) = x)) ∧
                                                        (¬R.phase r = (1 : Int) → (190 : Int) = x))) ∧
                                                (¬¬R.alone r = true → (190 : Int) = x)) ∧
                                            (¬¬site = R.lead r → (190 : Int) = x)) ∧
                                        (¬op = (5 : Int) →
                                          (op = (6 : Int) →
                                              (¬site = R.lead r → (190 : Int) = x) ∧
                                                (¬¬site = R.lead r → (0 : Int) = x)) ∧
                                            (¬op = (6 : Int) →
                                              (op = (7 : Int) →
                                                  (site = R.lead r →
                                                      (R.phase r = (2 : Int) →
                                                          (¬¬R.alone r = true → (190 : Int) = x) ∧
                                                            (¬¬¬R.alone r = true → (0 : Int) = x)) ∧
                                                        (¬R.phase r = (2 : Int) → (190 : Int) = x)) ∧
                                                    (¬site = R.lead r → (190 : Int) = x)) ∧
                                                (¬op = (7 : Int) →
                                                  (¬R.frm r = site →
                                                      (¬¬R.alone r = true → (190 : Int) = x) ∧
                                                        (¬¬¬R.alone r = true → (0 : Int) = x)) ∧
                                                    (¬¬R.frm r = site → (190 : Int) = x)))))))) ∧
                        (¬R.phase r = (1 : Int) →
                          (op = (2 : Int) →
                              (¬site = R.lead r →
                                  (R.phase r = (2 : Int) →
                                      (¬¬R.alone r = true → (190 : Int) = x) ∧ (¬¬¬R.alone r = true → (0 : Int) = x)) ∧
                                    (¬R.phase r = (2 : Int) → (190 : Int) = x)) ∧
                                (¬¬site = R.lead r → (190 : Int) = x)) ∧
                            (¬op = (2 : Int) →
                              (op = (3 : Int) →
                                  (¬¬site = R.lead r → (190 : Int) = x) ∧ (¬¬¬site = R.lead r → (0 : Int) = x)) ∧
                                (¬op = (3 : Int) →
                                  (op = (4 : Int) →
                                      (¬site = R.lead r →
                                          (¬R.alone r = true →
                                              (R.phase r = (3 : Int) → (0 : Int) = x) ∧
                                                (¬R.phase r = (3 : Int) →
                                                  (R.phase r = (1 : Int) → (0 : Int) = x) ∧
                                                    (¬R.phase r = (1 : Int) → (190 : Int) = x))) ∧
                                            (¬¬R.alone r = true → (190 : Int) = x)) ∧
                                        (¬¬site = R.lead r → (190 : Int) = x)) ∧
                                    (¬op = (4 : Int) →
                                      (op = (5 : Int) →
                                          (¬site = R.lead r →
                                              (¬R.alone r = true →
                                                  (R.phase r = (3 : Int) → (0 : Int) = x) ∧
                                                    (¬R.phase r = (3 : Int) →
                                                      (R.phase r = (1 : Int) → (0 : Int) = x) ∧
                                                        (¬R.phase r = (1 : Int) → (190 : Int) = x))) ∧
                                                (¬¬R.alone r = true → (190 : Int) = x)) ∧
                                            (¬¬site = R.lead r → (190 : Int) = x)) ∧
                                        (¬op = (5 : Int) →
                                          (op = (6 : Int) →
                                              (¬site = R.lead r → (190 : Int) = x) ∧
                                                (¬¬site = R.lead r → (0 : Int) = x)) ∧
                                            (¬op = (6 : Int) →
                                              (op = (7 : Int) →
                                                  (site = R.lead r →
                                                      (R.phase r = (2 : Int) →
                                                          (¬¬R.alone r = true → (190 : Int) = x) ∧
                                                            (¬¬¬R.alone r = true → (0 : Int) = x)) ∧
                                                        (¬R.phase r = (2 : Int) → (190 : Int) = x)) ∧
                                                    (¬site = R.lead r → (190 : Int) = x)) ∧
                                                (¬op = (7 : Int) → (190 : Int) = x)))))))))))) := by kernel_rfl
theorem vc_next (r s : R) (op x : Int) : (scallI sx1 Try.prog cf0 (sexec sx1 Try.prog cf0 1000) 10 0 [r.l, .int .u8 (.sym op)] (post (.tup [s.l, .int .i64 (.sym x)]))) = (∃ (y4 : R),
  ((R.pair r = R.pair y4 ∧
        R.born r = R.born y4 ∧
          R.epoch r = R.epoch y4 ∧
            R.lead r = R.lead y4 ∧
              R.phase r = R.phase y4 ∧
                R.frm r = R.frm y4 ∧
                  (R.quick r = true ↔ R.quick y4 = true) ∧ (R.alone r = true ↔ R.alone y4 = true) ∧ True) ∧
      True) ∧
    True ∧
      (¬checkE y4 = (0 : Int) →
          (¬checkE y4 = (0 : Int) →
              ((0 : Int) = R.pair s ∧
                  (0 : Int) = R.born s ∧
                    (0 : Int) = R.epoch s ∧
                      (0 : Int) = R.lead s ∧
                        (0 : Int) = R.phase s ∧
                          (0 : Int) = R.frm s ∧
                            (false = true ↔ R.quick s = true) ∧ (false = true ↔ R.alone s = true) ∧ True) ∧
                checkE y4 = x ∧ True) ∧
            (¬¬checkE y4 = (0 : Int) →
              (IntKind.wrap IntKind.u32 (R.epoch r + (1 : Int)) = (0 : Int) →
                  ((0 : Int) = R.pair s ∧
                      (0 : Int) = R.born s ∧
                        (0 : Int) = R.epoch s ∧
                          (0 : Int) = R.lead s ∧
                            (0 : Int) = R.phase s ∧
                              (0 : Int) = R.frm s ∧
                                (false = true ↔ R.quick s = true) ∧ (false = true ↔ R.alone s = true) ∧ True) ∧
                    (9 : Int) = x ∧ True) ∧
                (¬IntKind.wrap IntKind.u32 (R.epoch r + (1 : Int)) = (0 : Int) →
                  (op = (6 : Int) →
                      (op = (4 : Int) →
                          (R.pair r = R.pair s ∧
                              R.born r = R.born s ∧
                                IntKind.wrap IntKind.u32 (R.epoch r + (1 : Int)) = R.epoch s ∧
                                  IntKind.wrap IntKind.i64 ((1 : Int) - R.lead r) = R.lead s ∧
                                    (1 : Int) = R.phase s ∧
                                      IntKind.wrap IntKind.i64
                                            ((1 : Int) - IntKind.wrap IntKind.i64 ((1 : Int) - R.lead r)) =
                                          R.frm s ∧
                                        (op = (5 : Int) ↔ R.quick s = true) ∧
                                          (false = true ↔ R.alone s = true) ∧ True) ∧
                            (0 : Int) = x ∧ True) ∧
                        (¬op = (4 : Int) →
                          (op = (5 : Int) →
                              (R.pair r = R.pair s ∧
                                  R.born r = R.born s ∧
                                    IntKind.wrap IntKind.u32 (R.epoch r + (1 : Int)) = R.epoch s ∧
                                      IntKind.wrap IntKind.i64 ((1 : Int) - R.lead r) = R.lead s ∧
                                        (1 : Int) = R.phase s ∧
                                          IntKind.wrap IntKind.i64
                                                ((1 : Int) - IntKind.wrap IntKind.i64 ((1 : Int) - R.lead r)) =
                                              R.frm s ∧
                                            (op = (5 : Int) ↔ R.quick s = true) ∧
                                              (false = true ↔ R.alone s = true) ∧ True) ∧
                                (0 : Int) = x ∧ True) ∧
                            (¬op = (5 : Int) →
                              (op = (2 : Int) →
                                  (R.pair r = R.pair s ∧
                                      R.born r = R.born s ∧
                                        IntKind.wrap IntKind.u32 (R.epoch r + (1 : Int)) = R.epoch s ∧
                                          IntKind.wrap IntKind.i64 ((1 : Int) - R.lead r) = R.lead s ∧
                                            (3 : Int) = R.phase s ∧
                                              IntKind.wrap IntKind.i64 ((1 : Int) - R.lead r) = R.frm s ∧
                                                (op = (5 : Int) ↔ R.quick s = true) ∧
                                                  (false = true ↔ R.alone s = true) ∧ True) ∧
                                    (0 : Int) = x ∧ True) ∧
                                (¬op = (2 : Int) →
                                  (op = (7 : Int) →
                                      (R.pair r = R.pair s ∧
                                          R.born r = R.born s ∧
                                            IntKind.wrap IntKind.u32 (R.epoch r + (1 : Int)) = R.epoch s ∧
                                              IntKind.wrap IntKind.i64 ((1 : Int) - R.lead r) = R.lead s ∧
                                                (2 : Int) = R.phase s ∧
                                                  IntKind.wrap IntKind.i64 ((1 : Int) - R.lead r) = R.frm s ∧
                                                    (op = (5 : Int) ↔ R.quick s = true) ∧
                                                      (false = true ↔ R.alone s = true) ∧ True) ∧
                                        (0 : Int) = x ∧ True) ∧
                                    (¬op = (7 : Int) →
                                      (op = (8 : Int) →
                                          (R.pair r = R.pair s ∧
                                              R.born r = R.born s ∧
                                                IntKind.wrap IntKind.u32 (R.epoch r + (1 : Int)) = R.epoch s ∧
                                                  IntKind.wrap IntKind.i64 ((1 : Int) - R.lead r) = R.lead s ∧
                                                    (2 : Int) = R.phase s ∧
                                                      IntKind.wrap IntKind.i64 ((1 : Int) - R.lead r) = R.frm s ∧
                                                        (op = (5 : Int) ↔ R.quick s = true) ∧
                                                          (false = true ↔ R.alone s = true) ∧ True) ∧
                                            (0 : Int) = x ∧ True) ∧
                                        (¬op = (8 : Int) →
                                          (R.pair r = R.pair s ∧
                                              R.born r = R.born s ∧
                                                IntKind.wrap IntKind.u32 (R.epoch r + (1 : Int)) = R.epoch s ∧
                                                  IntKind.wrap IntKind.i64 ((1 : Int) - R.lead r) = R.lead s ∧
                                                    (1 : Int) = R.phase s ∧
                                                      IntKind.wrap IntKind.i64 ((1 : Int) - R.lead r) = R.frm s ∧
                                                        (op = (5 : Int) ↔ R.quick s = true) ∧
                                                          (false = true ↔ R.alone s = true) ∧ True) ∧
                                            (0 : Int) = x ∧ True)))))) ∧
                    (¬op = (6 : Int) →
                      (op = (7 : Int) →
                          (op = (4 : Int) →
                              (R.pair r = R.pair s ∧
                                  R.born r = R.born s ∧
                                    IntKind.wrap IntKind.u32 (R.epoch r + (1 : Int)) = R.epoch s ∧
                                      IntKind.wrap IntKind.i64 ((1 : Int) - R.lead r) = R.lead s ∧
                                        (1 : Int) = R.phase s ∧
                                          IntKind.wrap IntKind.i64
                                                ((1 : Int) - IntKind.wrap IntKind.i64 ((1 : Int) - R.lead r)) =
                                              R.frm s ∧
                                            (op = (5 : Int) ↔ R.quick s = true) ∧
                                              (false = true ↔ R.alone s = true) ∧ True) ∧
                                (0 : Int) = x ∧ True) ∧
                            (¬op = (4 : Int) →
                              (op = (5 : Int) →
                                  (R.pair r = R.pair s ∧
                                      R.born r = R.born s ∧
                                        IntKind.wrap IntKind.u32 (R.epoch r + (1 : Int)) = R.epoch s ∧
                                          IntKind.wrap IntKind.i64 ((1 : Int) - R.lead r) = R.lead s ∧
                                            (1 : Int) = R.phase s ∧
                                              IntKind.wrap IntKind.i64
                                                    ((1 : Int) - IntKind.wrap IntKind.i64 ((1 : Int) - R.lead r)) =
                                                  R.frm s ∧
                                                (op = (5 : Int) ↔ R.quick s = true) ∧
                                                  (false = true ↔ R.alone s = true) ∧ True) ∧
                                    (0 : Int) = x ∧ True) ∧
                                (¬op = (5 : Int) →
                                  (op = (2 : Int) →
                                      (R.pair r = R.pair s ∧
                                          R.born r = R.born s ∧
                                            IntKind.wrap IntKind.u32 (R.epoch r + (1 : Int)) = R.epoch s ∧
                                              IntKind.wrap IntKind.i64 ((1 : Int) - R.lead r) = R.lead s ∧
                                                (3 : Int) = R.phase s ∧
                                                  IntKind.wrap IntKind.i64 ((1 : Int) - R.lead r) = R.frm s ∧
                                                    (op = (5 : Int) ↔ R.quick s = true) ∧
                                                      (false = true ↔ R.alone s = true) ∧ True) ∧
                                        (0 : Int) = x ∧ True) ∧
                                    (¬op = (2 : Int) →
                                      (op = (7 : Int) →
                                          (R.pair r = R.pair s ∧
                                              R.born r = R.born s ∧
                                                IntKind.wrap IntKind.u32 (R.epoch r + (1 : Int)) = R.epoch s ∧
                                                  IntKind.wrap IntKind.i64 ((1 : Int) - R.lead r) = R.lead s ∧
                                                    (2 : Int) = R.phase s ∧
                                                      IntKind.wrap IntKind.i64 ((1 : Int) - R.lead r) = R.frm s ∧
                                                        (op = (5 : Int) ↔ R.quick s = true) ∧
                                                          (false = true ↔ R.alone s = true) ∧ True) ∧
                                            (0 : Int) = x ∧ True) ∧
                                        (¬op = (7 : Int) →
                                          (op = (8 : Int) →
                                              (R.pair r = R.pair s ∧
                                                  R.born r = R.born s ∧
                                                    IntKind.wrap IntKind.u32 (R.epoch r + (1 : Int)) = R.epoch s ∧
                                                      IntKind.wrap IntKind.i64 ((1 : Int) - R.lead r) = R.lead s ∧
                                                        (2 : Int) = R.phase s ∧
                                                          IntKind.wrap IntKind.i64 ((1 : Int) - R.lead r) = R.frm s ∧
                                                            (op = (5 : Int) ↔ R.quick s = true) ∧
                                                              (false = true ↔ R.alone s = true) ∧ True) ∧
                                                (0 : Int) = x ∧ True) ∧
                                            (¬op = (8 : Int) →
                                              (R.pair r = R.pair s ∧
                                                  R.born r = R.born s ∧
                                                    IntKind.wrap IntKind.u32 (R.epoch r + (1 : Int)) = R.epoch s ∧
                                                      IntKind.wrap IntKind.i64 ((1 : Int) - R.lead r) = R.lead s ∧
                                                        (1 : Int) = R.phase s ∧
                                                          IntKind.wrap IntKind.i64 ((1 : Int) - R.lead r) = R.frm s ∧
                                                            (op = (5 : Int) ↔ R.quick s = true) ∧
                                                              (false = true ↔ R.alone s = true) ∧ True) ∧
                                                (0 : Int) = x ∧ True)))))) ∧
                        (¬op = (7 : Int) →
                          (op = (4 : Int) →
                              (R.pair r = R.pair s ∧
                                  R.born r = R.born s ∧
                                    IntKind.wrap IntKind.u32 (R.epoch r + (1 : Int)) = R.epoch s ∧
                                      R.lead r = R.lead s ∧
                                        (1 : Int) = R.phase s ∧
                                          IntKind.wrap IntKind.i64 ((1 : Int) - R.lead r) = R.frm s ∧
                                            (op = (5 : Int) ↔ R.quick s = true) ∧
                                              (false = true ↔ R.alone s = true) ∧ True) ∧
                                (0 : Int) = x ∧ True) ∧
                            (¬op = (4 : Int) →
                              (op = (5 : Int) →
                                  (R.pair r = R.pair s ∧
                                      R.born r = R.born s ∧
                                        IntKind.wrap IntKind.u32 (R.epoch r + (1 : Int)) = R.epoch s ∧
                                          R.lead r = R.lead s ∧
                                            (1 : Int) = R.phase s ∧
                                              IntKind.wrap IntKind.i64 ((1 : Int) - R.lead r) = R.frm s ∧
                                                (op = (5 : Int) ↔ R.quick s = true) ∧
                                                  (false = true ↔ R.alone s = true) ∧ True) ∧
                                    (0 : Int) = x ∧ True) ∧
                                (¬op = (5 : Int) →
                                  (op = (2 : Int) →
                                      (R.pair r = R.pair s ∧
                                          R.born r = R.born s ∧
                                            IntKind.wrap IntKind.u32 (R.epoch r + (1 : Int)) = R.epoch s ∧
                                              R.lead r = R.lead s ∧
                                                (3 : Int) = R.phase s ∧
                                                  R.lead r = R.frm s ∧
                                                    (op = (5 : Int) ↔ R.quick s = true) ∧
                                                      (false = true ↔ R.alone s = true) ∧ True) ∧
                                        (0 : Int) = x ∧ True) ∧
                                    (¬op = (2 : Int) →
                                      (op = (7 : Int) →
                                          (R.pair r = R.pair s ∧
                                              R.born r = R.born s ∧
                                                IntKind.wrap IntKind.u32 (R.epoch r + (1 : Int)) = R.epoch s ∧
                                                  R.lead r = R.lead s ∧
                                                    (2 : Int) = R.phase s ∧
                                                      R.lead r = R.frm s ∧
                                                        (op = (5 : Int) ↔ R.quick s = true) ∧
                                                          (false = true ↔ R.alone s = true) ∧ True) ∧
                                            (0 : Int) = x ∧ True) ∧
                                        (¬op = (7 : Int) →
                                          (op = (8 : Int) →
                                              (R.pair r = R.pair s ∧
                                                  R.born r = R.born s ∧
                                                    IntKind.wrap IntKind.u32 (R.epoch r + (1 : Int)) = R.epoch s ∧
                                                      R.lead r = R.lead s ∧
                                                        (2 : Int) = R.phase s ∧
                                                          R.lead r = R.frm s ∧
                                                            (op = (5 : Int) ↔ R.quick s = true) ∧
                                                              (false = true ↔ R.alone s = true) ∧ True) ∧
                                                (0 : Int) = x ∧ True) ∧
                                            (¬op = (8 : Int) →
                                              (R.pair r = R.pair s ∧
                                                  R.born r = R.born s ∧
                                                    IntKind.wrap IntKind.u32 (R.epoch r + (1 : Int)) = R.epoch s ∧
                                                      R.lead r = R.lead s ∧
                                                        (1 : Int) = R.phase s ∧
                                                          R.lead r = R.frm s ∧
                                                            (op = (5 : Int) ↔ R.quick s = true) ∧
                                                              (false = true ↔ R.alone s = true) ∧ True) ∧
                                                (0 : Int) = x ∧ True)))))))))) ∧
        (¬¬checkE y4 = (0 : Int) →
          (op < (2 : Int) →
              ((0 : Int) = R.pair s ∧
                  (0 : Int) = R.born s ∧
                    (0 : Int) = R.epoch s ∧
                      (0 : Int) = R.lead s ∧
                        (0 : Int) = R.phase s ∧
                          (0 : Int) = R.frm s ∧
                            (false = true ↔ R.quick s = true) ∧ (false = true ↔ R.alone s = true) ∧ True) ∧
                (2 : Int) = x ∧ True) ∧
            (¬op < (2 : Int) →
              ((8 : Int) < op →
                  ((0 : Int) = R.pair s ∧
                      (0 : Int) = R.born s ∧
                        (0 : Int) = R.epoch s ∧
                          (0 : Int) = R.lead s ∧
                            (0 : Int) = R.phase s ∧
                              (0 : Int) = R.frm s ∧
                                (false = true ↔ R.quick s = true) ∧ (false = true ↔ R.alone s = true) ∧ True) ∧
                    (2 : Int) = x ∧ True) ∧
                (¬(8 : Int) < op →
                  (IntKind.wrap IntKind.u32 (R.epoch r + (1 : Int)) = (0 : Int) →
                      ((0 : Int) = R.pair s ∧
                          (0 : Int) = R.born s ∧
                            (0 : Int) = R.epoch s ∧
                              (0 : Int) = R.lead s ∧
                                (0 : Int) = R.phase s ∧
                                  (0 : Int) = R.frm s ∧
                                    (false = true ↔ R.quick s = true) ∧ (false = true ↔ R.alone s = true) ∧ True) ∧
                        (9 : Int) = x ∧ True) ∧
                    (¬IntKind.wrap IntKind.u32 (R.epoch r + (1 : Int)) = (0 : Int) →
                      (op = (6 : Int) →
                          (op = (4 : Int) →
                              (R.pair r = R.pair s ∧
                                  R.born r = R.born s ∧
                                    IntKind.wrap IntKind.u32 (R.epoch r + (1 : Int)) = R.epoch s ∧
                                      IntKind.wrap IntKind.i64 ((1 : Int) - R.lead r) = R.lead s ∧
                                        (1 : Int) = R.phase s ∧
                                          IntKind.wrap IntKind.i64
                                                ((1 : Int) - IntKind.wrap IntKind.i64 ((1 : Int) - R.lead r)) =
                                              R.frm s ∧
                                            (op = (5 : Int) ↔ R.quick s = true) ∧
                                              (false = true ↔ R.alone s = true) ∧ True) ∧
                                (0 : Int) = x ∧ True) ∧
                            (¬op = (4 : Int) →
                              (op = (5 : Int) →
                                  (R.pair r = R.pair s ∧
                                      R.born r = R.born s ∧
                                        IntKind.wrap IntKind.u32 (R.epoch r + (1 : Int)) = R.epoch s ∧
                                          IntKind.wrap IntKind.i64 ((1 : Int) - R.lead r) = R.lead s ∧
                                            (1 : Int) = R.phase s ∧
                                              IntKind.wrap IntKind.i64
                                                    ((1 : Int) - IntKind.wrap IntKind.i64 ((1 : Int) - R.lead r)) =
                                                  R.frm s ∧
                                                (op = (5 : Int) ↔ R.quick s = true) ∧
                                                  (false = true ↔ R.alone s = true) ∧ True) ∧
                                    (0 : Int) = x ∧ True) ∧
                                (¬op = (5 : Int) →
                                  (op = (2 : Int) →
                                      (R.pair r = R.pair s ∧
                                          R.born r = R.born s ∧
                                            IntKind.wrap IntKind.u32 (R.epoch r + (1 : Int)) = R.epoch s ∧
                                              IntKind.wrap IntKind.i64 ((1 : Int) - R.lead r) = R.lead s ∧
                                                (3 : Int) = R.phase s ∧
                                                  IntKind.wrap IntKind.i64 ((1 : Int) - R.lead r) = R.frm s ∧
                                                    (op = (5 : Int) ↔ R.quick s = true) ∧
                                                      (false = true ↔ R.alone s = true) ∧ True) ∧
                                        (0 : Int) = x ∧ True) ∧
                                    (¬op = (2 : Int) →
                                      (op = (7 : Int) →
                                          (R.pair r = R.pair s ∧
                                              R.born r = R.born s ∧
                                                IntKind.wrap IntKind.u32 (R.epoch r + (1 : Int)) = R.epoch s ∧
                                                  IntKind.wrap IntKind.i64 ((1 : Int) - R.lead r) = R.lead s ∧
                                                    (2 : Int) = R.phase s ∧
                                                      IntKind.wrap IntKind.i64 ((1 : Int) - R.lead r) = R.frm s ∧
                                                        (op = (5 : Int) ↔ R.quick s = true) ∧
                                                          (false = true ↔ R.alone s = true) ∧ True) ∧
                                            (0 : Int) = x ∧ True) ∧
                                        (¬op = (7 : Int) →
                                          (op = (8 : Int) →
                                              (R.pair r = R.pair s ∧
                                                  R.born r = R.born s ∧
                                                    IntKind.wrap IntKind.u32 (R.epoch r + (1 : Int)) = R.epoch s ∧
                                                      IntKind.wrap IntKind.i64 ((1 : Int) - R.lead r) = R.lead s ∧
                                                        (2 : Int) = R.phase s ∧
                                                          IntKind.wrap IntKind.i64 ((1 : Int) - R.lead r) = R.frm s ∧
                                                            (op = (5 : Int) ↔ R.quick s = true) ∧
                                                              (false = true ↔ R.alone s = true) ∧ True) ∧
                                                (0 : Int) = x ∧ True) ∧
                                            (¬op = (8 : Int) →
                                              (R.pair r = R.pair s ∧
                                                  R.born r = R.born s ∧
                                                    IntKind.wrap IntKind.u32 (R.epoch r + (1 : Int)) = R.epoch s ∧
                                                      IntKind.wrap IntKind.i64 ((1 : Int) - R.lead r) = R.lead s ∧
                                                        (1 : Int) = R.phase s ∧
                                                          IntKind.wrap IntKind.i64 ((1 : Int) - R.lead r) = R.frm s ∧
                                                            (op = (5 : Int) ↔ R.quick s = true) ∧
                                                              (false = true ↔ R.alone s = true) ∧ True) ∧
                                                (0 : Int) = x ∧ True)))))) ∧
                        (¬op = (6 : Int) →
                          (op = (7 : Int) →
                              (op = (4 : Int) →
                                  (R.pair r = R.pair s ∧
                                      R.born r = R.born s ∧
                                        IntKind.wrap IntKind.u32 (R.epoch r + (1 : Int)) = R.epoch s ∧
                                          IntKind.wrap IntKind.i64 ((1 : Int) - R.lead r) = R.lead s ∧
                                            (1 : Int) = R.phase s ∧
                                              IntKind.wrap IntKind.i64
                                                    ((1 : Int) - IntKind.wrap IntKind.i64 ((1 : Int) - R.lead r)) =
                                                  R.frm s ∧
                                                (op = (5 : Int) ↔ R.quick s = true) ∧
                                                  (false = true ↔ R.alone s = true) ∧ True) ∧
                                    (0 : Int) = x ∧ True) ∧
                                (¬op = (4 : Int) →
                                  (op = (5 : Int) →
                                      (R.pair r = R.pair s ∧
                                          R.born r = R.born s ∧
                                            IntKind.wrap IntKind.u32 (R.epoch r + (1 : Int)) = R.epoch s ∧
                                              IntKind.wrap IntKind.i64 ((1 : Int) - R.lead r) = R.lead s ∧
                                                (1 : Int) = R.phase s ∧
                                                  IntKind.wrap IntKind.i64
                                                        ((1 : Int) - IntKind.wrap IntKind.i64 ((1 : Int) - R.lead r)) =
                                                      R.frm s ∧
                                                    (op = (5 : Int) ↔ R.quick s = true) ∧
                                                      (false = true ↔ R.alone s = true) ∧ True) ∧
                                        (0 : Int) = x ∧ True) ∧
                                    (¬op = (5 : Int) →
                                      (op = (2 : Int) →
                                          (R.pair r = R.pair s ∧
                                              R.born r = R.born s ∧
                                                IntKind.wrap IntKind.u32 (R.epoch r + (1 : Int)) = R.epoch s ∧
                                                  IntKind.wrap IntKind.i64 ((1 : Int) - R.lead r) = R.lead s ∧
                                                    (3 : Int) = R.phase s ∧
                                                      IntKind.wrap IntKind.i64 ((1 : Int) - R.lead r) = R.frm s ∧
                                                        (op = (5 : Int) ↔ R.quick s = true) ∧
                                                          (false = true ↔ R.alone s = true) ∧ True) ∧
                                            (0 : Int) = x ∧ True) ∧
                                        (¬op = (2 : Int) →
                                          (op = (7 : Int) →
                                              (R.pair r = R.pair s ∧
                                                  R.born r = R.born s ∧
                                                    IntKind.wrap IntKind.u32 (R.epoch r + (1 : Int)) = R.epoch s ∧
                                                      IntKind.wrap IntKind.i64 ((1 : Int) - R.lead r) = R.lead s ∧
                                                        (2 : Int) = R.phase s ∧
                                                          IntKind.wrap IntKind.i64 ((1 : Int) - R.lead r) = R.frm s ∧
                                                            (op = (5 : Int) ↔ R.quick s = true) ∧
                                                              (false = true ↔ R.alone s = true) ∧ True) ∧
                                                (0 : Int) = x ∧ True) ∧
                                            (¬op = (7 : Int) →
                                              (op = (8 : Int) →
                                                  (R.pair r = R.pair s ∧
                                                      R.born r = R.born s ∧
                                                        IntKind.wrap IntKind.u32 (R.epoch r + (1 : Int)) = R.epoch s ∧
                                                          IntKind.wrap IntKind.i64 ((1 : Int) - R.lead r) = R.lead s ∧
                                                            (2 : Int) = R.phase s ∧
                                                              IntKind.wrap IntKind.i64 ((1 : Int) - R.lead r) =
                                                                  R.frm s ∧
                                                                (op = (5 : Int) ↔ R.quick s = true) ∧
                                                                  (false = true ↔ R.alone s = true) ∧ True) ∧
                                                    (0 : Int) = x ∧ True) ∧
                                                (¬op = (8 : Int) →
                                                  (R.pair r = R.pair s ∧
                                                      R.born r = R.born s ∧
                                                        IntKind.wrap IntKind.u32 (R.epoch r + (1 : Int)) = R.epoch s ∧
                                                          IntKind.wrap IntKind.i64 ((1 : Int) - R.lead r) = R.lead s ∧
                                                            (1 : Int) = R.phase s ∧
                                                              IntKind.wrap IntKind.i64 ((1 : Int) - R.lead r) =
                                                                  R.frm s ∧
                                                                (op = (5 : Int) ↔ R.quick s = true) ∧
                                                                  (false = true ↔ R.alone s = true) ∧ True) ∧
                                                    (0 : Int) = x ∧ True)))))) ∧
                            (¬op = (7 : Int) →
                              (op = (4 : Int) →
                                  (R.pair r = R.pair s ∧
                                      R.born r = R.born s ∧
                                        IntKind.wrap IntKind.u32 (R.epoch r + (1 : Int)) = R.epoch s ∧
                                          R.lead r = R.lead s ∧
                                            (1 : Int) = R.phase s ∧
                                              IntKind.wrap IntKind.i64 ((1 : Int) - R.lead r) = R.frm s ∧
                                                (op = (5 : Int) ↔ R.quick s = true) ∧
                                                  (false = true ↔ R.alone s = true) ∧ True) ∧
                                    (0 : Int) = x ∧ True) ∧
                                (¬op = (4 : Int) →
                                  (op = (5 : Int) →
                                      (R.pair r = R.pair s ∧
                                          R.born r = R.born s ∧
                                            IntKind.wrap IntKind.u32 (R.epoch r + (1 : Int)) = R.epoch s ∧
                                              R.lead r = R.lead s ∧
                                                (1 : Int) = R.phase s ∧
                                                  IntKind.wrap IntKind.i64 ((1 : Int) - R.lead r) = R.frm s ∧
                                                    (op = (5 : Int) ↔ R.quick s = true) ∧
                                                      (false = true ↔ R.alone s = true) ∧ True) ∧
                                        (0 : Int) = x ∧ True) ∧
                                    (¬op = (5 : Int) →
                                      (op = (2 : Int) →
                                          (R.pair r = R.pair s ∧
                                              R.born r = R.born s ∧
                                                IntKind.wrap IntKind.u32 (R.epoch r + (1 : Int)) = R.epoch s ∧
                                                  R.lead r = R.lead s ∧
                                                    (3 : Int) = R.phase s ∧
                                                      R.lead r = R.frm s ∧
                                                        (op = (5 : Int) ↔ R.quick s = true) ∧
                                                          (false = true ↔ R.alone s = true) ∧ True) ∧
                                            (0 : Int) = x ∧ True) ∧
                                        (¬op = (2 : Int) →
                                          (op = (7 : Int) →
                                              (R.pair r = R.pair s ∧
                                                  R.born r = R.born s ∧
                                                    IntKind.wrap IntKind.u32 (R.epoch r + (1 : Int)) = R.epoch s ∧
                                                      R.lead r = R.lead s ∧
                                                        (2 : Int) = R.phase s ∧
                                                          R.lead r = R.frm s ∧
                                                            (op = (5 : Int) ↔ R.quick s = true) ∧
                                                              (false = true ↔ R.alone s = true) ∧ True) ∧
                                                (0 : Int) = x ∧ True) ∧
                                            (¬op = (7 : Int) →
                                              (op = (8 : Int) →
                                                  (R.pair r = R.pair s ∧
                                                      R.born r = R.born s ∧
                                                        IntKind.wrap IntKind.u32 (R.epoch r + (1 : Int)) = R.epoch s ∧
                                                          R.lead r = R.lead s ∧
                                                            (2 : Int) = R.phase s ∧
                                                              R.lead r = R.frm s ∧
                                                                (op = (5 : Int) ↔ R.quick s = true) ∧
                                                                  (false = true ↔ R.alone s = true) ∧ True) ∧
                                                    (0 : Int) = x ∧ True) ∧
                                                (¬op = (8 : Int) →
                                                  (R.pair r = R.pair s ∧
                                                      R.born r = R.born s ∧
                                                        IntKind.wrap IntKind.u32 (R.epoch r + (1 : Int)) = R.epoch s ∧
                                                          R.lead r = R.lead s ∧
                                                            (1 : Int) = R.phase s ∧
                                                              R.lead r = R.frm s ∧
                                                                (op = (5 : Int) ↔ R.quick s = true) ∧
                                                                  (false = true ↔ R.alone s = true) ∧ True) ∧
                                                    (0 : Int) = x ∧ True)))))))))))) := by kernel_rfl
theorem op_cases (op : Int) : op = 2 ∨ op = 3 ∨ op = 4 ∨ op = 5 ∨ op = 6 ∨ op = 7 ∨ op = 8 ∨ ((decide (2 ≤ op) && decide (op ≤ 8)) = false ∧ op ≠ 2 ∧ op ≠ 3 ∧ op ≠ 4 ∧ op ≠ 5 ∧ op ≠ 6 ∧ op ≠ 7 ∧ op ≠ 8 ∧ (op < 2 ∨ 8 < op)) := by
  by_cases h : 2 ≤ op ∧ op ≤ 8
  · omega
  · refine Or.inr (Or.inr (Or.inr (Or.inr (Or.inr (Or.inr (Or.inr ⟨?_, by omega⟩))))))
    simp only [Bool.and_eq_false_iff, decide_eq_false_iff_not]; omega
set_option maxHeartbeats 0 in
theorem writes_all (site : Int) (r : R) : scallI sx1 Try.prog cf0 (sexec sx1 Try.prog cf0 1000) 11 0 [.int .i64 (.sym site), r.l] (post (.tup [.bool (.sym (writesX site r = true)), .int .i64 (.sym (writesE site r))])) := by
  rw [vc_writes site r (writesX site r = true) True (writesE site r)]
  refine Exists.intro r ⟨⟨⟨rfl, rfl, rfl, rfl, rfl, rfl, Iff.rfl, Iff.rfl, trivial⟩, trivial⟩, trivial, ?_⟩
  unfold writesX writesE writesB target siteOk
  generalize checkE r = ce
  obtain ⟨pair, born, epoch, lead, phase, frm, quick, alone⟩ := r
  by_cases hce : ce = 0 <;> by_cases h0 : site = 0 <;> by_cases h1 : site = 1 <;> by_cases h3 : phase = 3 <;> by_cases h4 : phase = 1 <;> by_cases h5 : frm = site <;> by_cases h6 : site = lead <;> cases alone <;> simp [*] at * <;> omega
set_option maxHeartbeats 0 in
theorem order_all (site : Int) (r : R) (op : Int) : scallI sx1 Try.prog cf0 (sexec sx1 Try.prog cf0 1000) 8 0 [.int .i64 (.sym site), r.l, .int .u8 (.sym op)] (post (.int .i64 (.sym (orderE site r op)))) := by
  rw [vc_order]
  refine Exists.intro r ⟨⟨⟨rfl, rfl, rfl, rfl, rfl, rfl, Iff.rfl, Iff.rfl, trivial⟩, trivial⟩, trivial, ?_⟩
  unfold orderE askE ordered target siteOk
  generalize checkE r = ce
  obtain ⟨pair, born, epoch, lead, phase, frm, quick, alone⟩ := r
  repeat' first | (intro _) | (refine And.intro ?_ ?_)
  all_goals first | trivial | omega | (cases alone <;> simp_all <;> done) | (cases alone <;> simp_all <;> omega)
set_option maxHeartbeats 0 in
theorem join_all (site : Int) (r : R) (op : Int) : scallI sx1 Try.prog cf0 (sexec sx1 Try.prog cf0 1000) 9 0 [.int .i64 (.sym site), r.l, .int .u8 (.sym op)] (post (.int .i64 (.sym (joinE site r op)))) := by
  rw [vc_join]
  refine Exists.intro r ⟨⟨⟨rfl, rfl, rfl, rfl, rfl, rfl, Iff.rfl, Iff.rfl, trivial⟩, trivial⟩, trivial, ?_⟩
  unfold joinE askE joined target siteOk
  generalize checkE r = ce
  obtain ⟨pair, born, epoch, lead, phase, frm, quick, alone⟩ := r
  repeat' first | (intro _) | (refine And.intro ?_ ?_)
  all_goals first | trivial | omega | (cases alone <;> simp_all <;> done) | (cases alone <;> simp_all <;> omega)
theorem next_all (r : R) (op : Int) : scallI sx1 Try.prog cf0 (sexec sx1 Try.prog cf0 1000) 10 0 [r.l, .int .u8 (.sym op)] (post (.tup [(nextR r op).l, .int .i64 (.sym (nextE r op))])) := by
  rw [vc_next]
  refine Exists.intro r ⟨⟨⟨rfl, rfl, rfl, rfl, rfl, rfl, Iff.rfl, Iff.rfl, trivial⟩, trivial⟩, trivial, ?_⟩
  unfold nextR nextE leadN askE siteOk
  generalize checkE r = ce
  obtain ⟨pair, born, epoch, lead, phase, frm, quick, alone⟩ := r
  by_cases hce : ce = 0 <;> by_cases hep : IntKind.wrap IntKind.u32 (epoch + 1) = 0 <;> rcases op_cases op with h | h | h | h | h | h | h | ⟨h, h2, h3, h4, h5, h6, h7, h8, h9⟩ <;> simp [*] at * <;> first | done | omega
theorem sxL_ok : SXOK Try.prog cf0 sxL := sxok_of (all_cons al (all_cons ck (all_cons (ct_vc (m := 1000) sx1_ok fun a _ => writes_all a.1 a.2) (all_cons (ct_vc (m := 1000) sx1_ok fun a _ => order_all a.1 a.2.1 a.2.2) (all_cons (ct_vc (m := 1000) sx1_ok fun a _ => join_all a.1 a.2.1 a.2.2) (all_cons (ct_vc (m := 1000) sx1_ok fun a _ => next_all a.1 a.2) all_nil)))))) all_nil

end
end Go.Proofs.Ytaefpedblfhabaa.VM
