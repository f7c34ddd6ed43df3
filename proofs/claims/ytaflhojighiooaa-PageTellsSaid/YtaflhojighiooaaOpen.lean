/- The law's arguments as labels. No conditions. -/
import Derived.Test.YtaflhojighiooaaProg
import Derived.KernelRfl
import Derived.Test.YtaflhojighiooaaLaw
namespace Go.Proofs.Ytaflhojighiooaa.VM
open Go Go.RowKit
set_option linter.unusedVariables false
set_option linter.unusedSimpArgs false
set_option maxRecDepth 100000
noncomputable section
def Conf.cells (c : Conf) : List SV := [.int .i64 (.sym c.pairs), .int .i64 (.sym c.tracks), .int .i64 (.sym c.area), .int .i64 (.sym c.most), .int .i64 (.sym c.window), .int .i64 (.sym c.quiet)]
theorem lo_i : LO Try.prog 3 1 (eI .i64) (fun n => IntKind.min .i64 ≤ n ∧ n ≤ IntKind.max .i64) := lo_int Try.underlying3 (by kernel_rfl)
theorem lo_conf : LO Try.prog 23 6 Conf.cells (fun _ => True) :=
  lo_struct (ts := [3, 3, 3, 3, 3, 3]) Try.underlying23 (by kernel_rfl) (by kernel_rfl) (by kernel_rfl) (lf_cons lo_i (lf_cons lo_i (lf_cons lo_i (lf_cons lo_i (lf_cons lo_i (lf_one lo_i))))))
    (fun x => ⟨x.1, x.2.1, x.2.2.1, x.2.2.2.1, x.2.2.2.2.1, x.2.2.2.2.2⟩) Conf.cells (fun _ => True) (fun _ => rfl) (fun _ _ => trivial)
theorem walk (c : Conf) (pair n bits : Int) (_ : True) (_ : IntKind.min .i64 ≤ pair ∧ pair ≤ IntKind.max .i64) (_ : IntKind.min .i64 ≤ n ∧ n ≤ IntKind.max .i64) (h : IntKind.min .u8 ≤ bits ∧ bits ≤ IntKind.max .u8) :
    ∃ sx : SX, SXOK Try.prog cf0 sx ∧ scallI sx Try.prog cf0 (sexec sx Try.prog cf0 1000) 3 0 [.agg c.cells, .int .i64 (.sym pair), .int .i64 (.sym n), .int .u8 (.sym bits)] (post (.bool (.lit true))) :=
  page_tells ⟨c, pair, n, bits⟩ h.1 h.2

end
end Go.Proofs.Ytaflhojighiooaa.VM
