/- A call that is carried out ahead. No conditions. -/
import Derived.Test.YtnjdfalmincpgaaSnCf
import Derived.KernelRfl
namespace Go.Proofs.Ytnjdfalmincpgaa.VM
open Go
noncomputable section
def lit30 : V := (.tup [(.agg [(.int .u32 4096), (.int .u32 8192), (.bool true), (.bool false), (.int .u32 3), (.int .u32 0), (.slI true [(.slI true [(.int .u8 97)] 1 false), (.slI true [(.int .u8 98)] 1 false), (.slI true [(.int .u8 99)] 1 false), (.slI true [] 0 false), (.slI true [] 0 false), (.slI true [] 0 false), (.slI true [] 0 false), (.slI true [] 0 false), (.slI true [] 0 false), (.slI true [] 0 false), (.slI true [] 0 false), (.slI true [] 0 false), (.slI true [] 0 false), (.slI true [] 0 false), (.slI true [] 0 false), (.slI true [] 0 false), (.slI true [] 0 false), (.slI true [] 0 false), (.slI true [] 0 false), (.slI true [] 0 false), (.slI true [] 0 false), (.slI true [] 0 false), (.slI true [] 0 false), (.slI true [] 0 false), (.slI true [] 0 false), (.slI true [] 0 false), (.slI true [] 0 false), (.slI true [] 0 false), (.slI true [] 0 false), (.slI true [] 0 false), (.slI true [] 0 false), (.slI true [] 0 false), (.slI true [] 0 false), (.slI true [] 0 false), (.slI true [] 0 false), (.slI true [] 0 false), (.slI true [] 0 false), (.slI true [] 0 false), (.slI true [] 0 false), (.slI true [] 0 false), (.slI true [] 0 false), (.slI true [] 0 false), (.slI true [] 0 false), (.slI true [] 0 false), (.slI true [] 0 false), (.slI true [] 0 false), (.slI true [] 0 false), (.slI true [] 0 false), (.slI true [] 0 false), (.slI true [] 0 false), (.slI true [] 0 false), (.slI true [] 0 false), (.slI true [] 0 false), (.slI true [] 0 false), (.slI true [] 0 false), (.slI true [] 0 false), (.slI true [] 0 false), (.slI true [] 0 false), (.slI true [] 0 false), (.slI true [] 0 false), (.slI true [] 0 false), (.slI true [] 0 false), (.slI true [] 0 false), (.slI true [] 0 false)] 64 false), (.int .i64 0), (.int .i64 3), (.int .u32 0), (.int .i64 0)]), (.bool true)])
theorem val30 : vcall Try.prog cf0 100000 30 0 [] = some (lit30, []) := by kernel_rfl
def cf1 : Cfg := cf0.memo 30 lit30
theorem cf1_ok : ExtOK Try.prog cf1 := memo_ok (by kernel_rfl) cf0_ok val30
end
end Go.Proofs.Ytnjdfalmincpgaa.VM
