/- A call that is carried out ahead. No conditions. -/
import Derived.Test.YtnjdfalmincpgaaSessNamesM0
import Derived.KernelRfl
namespace Go.Proofs.Ytnjdfalmincpgaa.VM
open Go
noncomputable section
def lit31 : V := (.bool true)
theorem val31 : vcall Try.prog cf1 100000 31 0 [] = some (lit31, []) := by kernel_rfl
def cf2 : Cfg := cf1.memo 31 lit31
theorem cf2_ok : ExtOK Try.prog cf2 := memo_ok (by kernel_rfl) cf1_ok val31
end
end Go.Proofs.Ytnjdfalmincpgaa.VM
