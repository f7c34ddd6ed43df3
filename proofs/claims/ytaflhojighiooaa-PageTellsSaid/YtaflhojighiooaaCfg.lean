/- Configs: what place.Check and its reference answer. No conditions. -/
import Derived.Test.YtaflhojighiooaaProg
import Derived.KernelRfl
import Derived.Test.YtaflhojighiooaaSVv

namespace Go.Proofs.Ytaflhojighiooaa.VM
open Go Go.RowKit
set_option linter.unusedVariables false
set_option linter.unusedSimpArgs false
set_option maxRecDepth 100000
noncomputable section
def cf0 : Cfg := ⟨fun f => ([23] : List Nat).contains f, fun f => false, fun _ => none⟩
def sx0 : SX := ⟨fun _ => none, ctOf [], lpOf []⟩
/-- A config. -/
structure Conf where
  pairs : Int
  tracks : Int
  area : Int
  most : Int
  window : Int
  quiet : Int
def Conf.ok (c : Conf) : Prop := 1 ≤ c.pairs ∧ c.pairs ≤ 3 ∧ 1 ≤ c.tracks ∧ c.tracks ≤ 16 ∧ c.pairs + 2 ≤ c.area ∧ c.area ≤ 32 ∧ 1 ≤ c.most ∧ c.most ≤ c.pairs ∧ 1 ≤ c.window ∧ c.window ≤ 4 ∧ 4 ≤ c.quiet ∧ c.quiet ≤ 64
def Conf.l (c : Conf) : SV := .agg [.int .i64 (.sym c.pairs), .int .i64 (.sym c.tracks), .int .i64 (.sym c.area), .int .i64 (.sym c.most), .int .i64 (.sym c.window), .int .i64 (.sym c.quiet)]
def i64 (n : Int) : SV := .int .i64 (.sym n)
def range64 (n : Int) : Prop := -9223372036854775808 ≤ n ∧ n ≤ 9223372036854775807
theorem vc_check (c : Conf) (r : SI) : (scallI sx0 Try.prog cf0 (sexec sx0 Try.prog cf0 1000) 25 0 [c.l] (post (.int .i64 r))) = ((Conf.pairs c < (1 : Int) → (8 : Int) = SI.val r) ∧
  (¬Conf.pairs c < (1 : Int) →
    ((3 : Int) < Conf.pairs c → (8 : Int) = SI.val r) ∧
      (¬(3 : Int) < Conf.pairs c →
        (Conf.tracks c < (1 : Int) → (8 : Int) = SI.val r) ∧
          (¬Conf.tracks c < (1 : Int) →
            ((16 : Int) < Conf.tracks c → (8 : Int) = SI.val r) ∧
              (¬(16 : Int) < Conf.tracks c →
                (Conf.area c < (1 : Int) → (8 : Int) = SI.val r) ∧
                  (¬Conf.area c < (1 : Int) →
                    ((32 : Int) < Conf.area c → (8 : Int) = SI.val r) ∧
                      (¬(32 : Int) < Conf.area c →
                        (Conf.most c < (1 : Int) → (8 : Int) = SI.val r) ∧
                          (¬Conf.most c < (1 : Int) →
                            (Conf.pairs c < Conf.most c → (8 : Int) = SI.val r) ∧
                              (¬Conf.pairs c < Conf.most c →
                                (Conf.window c < (1 : Int) → (8 : Int) = SI.val r) ∧
                                  (¬Conf.window c < (1 : Int) →
                                    ((4 : Int) < Conf.window c → (8 : Int) = SI.val r) ∧
                                      (¬(4 : Int) < Conf.window c →
                                        (Conf.quiet c < (4 : Int) → (8 : Int) = SI.val r) ∧
                                          (¬Conf.quiet c < (4 : Int) →
                                            ((64 : Int) < Conf.quiet c → (8 : Int) = SI.val r) ∧
                                              (¬(64 : Int) < Conf.quiet c →
                                                (Conf.area c < IntKind.wrap IntKind.i64 (Conf.pairs c + (2 : Int)) →
                                                    (8 : Int) = SI.val r) ∧
                                                  (¬Conf.area c < IntKind.wrap IntKind.i64 (Conf.pairs c + (2 : Int)) →
                                                    (0 : Int) = SI.val r)))))))))))))) := by kernel_rfl
theorem vc_may (c : Conf) (p : Bool) : (scallI sx0 Try.prog cf0 (sexec sx0 Try.prog cf0 1000) 16 0 [c.l] (post (.bool (.lit p)))) = (((1 : Int) ≤ Conf.pairs c →
    (¬Conf.pairs c ≤ (3 : Int) → false = p) ∧
      (¬¬Conf.pairs c ≤ (3 : Int) →
        ((1 : Int) ≤ Conf.tracks c →
            (¬Conf.tracks c ≤ (16 : Int) → false = p) ∧
              (¬¬Conf.tracks c ≤ (16 : Int) →
                (IntKind.wrap IntKind.i64 (Conf.pairs c + (2 : Int)) ≤ Conf.area c →
                    (¬Conf.area c ≤ (32 : Int) → false = p) ∧
                      (¬¬Conf.area c ≤ (32 : Int) →
                        ((1 : Int) ≤ Conf.most c →
                            (¬Conf.most c ≤ Conf.pairs c → false = p) ∧
                              (¬¬Conf.most c ≤ Conf.pairs c →
                                ((1 : Int) ≤ Conf.window c →
                                    (Conf.window c ≤ (4 : Int) →
                                        ((4 : Int) ≤ Conf.quiet c → (Conf.quiet c ≤ (64 : Int) ↔ p = true)) ∧
                                          (¬(4 : Int) ≤ Conf.quiet c → false = p)) ∧
                                      (¬Conf.window c ≤ (4 : Int) → false = p)) ∧
                                  (¬(1 : Int) ≤ Conf.window c → false = p))) ∧
                          (¬(1 : Int) ≤ Conf.most c → false = p))) ∧
                  (¬IntKind.wrap IntKind.i64 (Conf.pairs c + (2 : Int)) ≤ Conf.area c → false = p))) ∧
          (¬(1 : Int) ≤ Conf.tracks c → false = p))) ∧
  (¬(1 : Int) ≤ Conf.pairs c → false = p)) := by kernel_rfl
theorem wrap_ar {c : Conf} (h : c.ok) : IntKind.i64.wrap (c.pairs + 2) = c.pairs + 2 := wr_i64 (by unfold Conf.ok at h; omega) (by unfold Conf.ok at h; omega)
theorem wrap_ar' {c : Conf} (h1 : ¬ c.pairs < 1) (h2 : ¬ 3 < c.pairs) : IntKind.i64.wrap (c.pairs + 2) = c.pairs + 2 := wr_i64 (by omega) (by omega)
theorem check_ok (c : Conf) (h : c.ok) : scallI sx0 Try.prog cf0 (sexec sx0 Try.prog cf0 1000) 25 0 [c.l] (post (.int .i64 (.lit 0))) := by
  rw [vc_check, wrap_ar h]
  unfold Conf.ok at h
  repeat' first | (intro _) | (refine And.intro ?_ ?_)
  all_goals first | rfl | (simp only [SI.val_lit]; omega)
theorem check_bad (c : Conf) (h : ¬ c.ok) : scallI sx0 Try.prog cf0 (sexec sx0 Try.prog cf0 1000) 25 0 [c.l] (post (.int .i64 (.lit 8))) := by
  rw [vc_check]
  unfold Conf.ok at h
  repeat' first | (intro _) | (refine And.intro ?_ ?_)
  all_goals first | rfl | (rw [wrap_ar' (by assumption) (by assumption)] at *; simp only [SI.val_lit]; omega)
theorem may_ok (c : Conf) (h : c.ok) : scallI sx0 Try.prog cf0 (sexec sx0 Try.prog cf0 1000) 16 0 [c.l] (post (.bool (.lit true))) := by
  rw [vc_may, wrap_ar h]
  unfold Conf.ok at h
  repeat' first | (intro _) | (refine And.intro ?_ ?_)
  all_goals first | rfl | omega | (simp only [eq_self, iff_true]; omega) | (exfalso; omega)
theorem may_bad (c : Conf) (h : ¬ c.ok) : scallI sx0 Try.prog cf0 (sexec sx0 Try.prog cf0 1000) 16 0 [c.l] (post (.bool (.lit false))) := by
  rw [vc_may]
  unfold Conf.ok at h
  repeat' first | (intro _) | (refine And.intro ?_ ?_)
  all_goals first | rfl | (simp only [Bool.false_eq_true, iff_false]; rw [wrap_ar' (by omega) (by omega)] at *; omega)

end
end Go.Proofs.Ytaflhojighiooaa.VM
