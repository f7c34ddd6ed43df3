/- Which calls are carried out how. No conditions. -/
import Derived.Test.YtnjdfalmincpgaaVMy
import Derived.Test.YtnjdfalmincpgaaVMringB
namespace Go.Proofs.Ytnjdfalmincpgaa.VM
open Go
noncomputable section
def cf0 : Cfg := Cfg.by ⟨fun f => ([35] : List Nat).contains f, fun f => ([39, 40, 41, 52, 53] : List Nat).contains f, fun _ => none⟩ 42 ringListG
theorem cf0_ok : ExtOK Try.prog cf0 := by_ok extOK_none fun _ _ _ _ h => ringList_iso h
end
end Go.Proofs.Ytnjdfalmincpgaa.VM
