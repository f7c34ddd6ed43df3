/- What the table of states answers, told. No conditions. -/
import Derived.Test.YtaefpedblfhabaaProg
import Derived.KernelRfl
import Derived.Test.YtaefpedblfhabaaSoA
namespace Go.Proofs.Ytaefpedblfhabaa.VM
open Go Go.RowKit
set_option linter.unusedVariables false
set_option linter.unusedSimpArgs false
set_option maxRecDepth 100000
noncomputable section
def target (site : Int) (r : R) : Bool := decide (r.phase = 1) && !decide (r.frm = site)
def siteOk (site : Int) : Bool := decide (site = 0) || decide (site = 1)
def writesE (site : Int) (r : R) : Int := if checkE r = 0 then (if siteOk site then 0 else 2) else checkE r
def writesB (site : Int) (r : R) : Bool := decide (r.phase = 3) || (!target site r && (decide (site = r.lead) || r.alone))
def writesX (site : Int) (r : R) : Bool := decide (writesE site r = 0) && writesB site r
def askE (site : Int) (r : R) (op : Int) : Int := if checkE r = 0 then (if siteOk site && decide (2 ≤ op) && decide (op ≤ 8) then 0 else 2) else checkE r
def ordered (site : Int) (r : R) (op : Int) : Bool :=
  if op = 2 then decide (site = r.lead) && decide (r.phase = 2) && !r.alone
  else if op = 3 then decide (site = r.lead) && (decide (r.phase = 3) || r.alone) && !target site r
  else if op = 4 ∨ op = 5 then decide (site = r.lead) && (decide (r.phase = 3) && !r.alone || target site r && r.alone)
  else if op = 6 then !decide (site = r.lead) && (decide (r.phase = 3) || r.alone)
  else if op = 7 then !decide (site = r.lead) && decide (r.phase = 2) && !r.alone
  else decide (r.phase = 1) && !target site r && !r.alone
def joined (site : Int) (r : R) (op : Int) : Bool :=
  if op = 2 then !decide (site = r.lead) && decide (r.phase = 2) && !r.alone
  else if op = 3 then !decide (site = r.lead)
  else if op = 4 ∨ op = 5 then !decide (site = r.lead) && !r.alone && (decide (r.phase = 3) || decide (r.phase = 1) && !target site r)
  else if op = 6 then decide (site = r.lead)
  else if op = 7 then decide (site = r.lead) && decide (r.phase = 2) && !r.alone
  else target site r && !r.alone
def orderE (site : Int) (r : R) (op : Int) : Int := if askE site r op = 0 then (if ordered site r op then 0 else 190) else askE site r op
def joinE (site : Int) (r : R) (op : Int) : Int := if askE site r op = 0 then (if joined site r op then 0 else 190) else askE site r op
def nextE (r : R) (op : Int) : Int := if askE 0 r op = 0 then (if IntKind.wrap IntKind.u32 (r.epoch + 1) = 0 then 9 else 0) else askE 0 r op
def leadN (r : R) (op : Int) : Int := if op = 6 ∨ op = 7 then IntKind.wrap IntKind.i64 (1 - r.lead) else r.lead
def nextR (r : R) (op : Int) : R := if nextE r op = 0 then
    ⟨r.pair, r.born, IntKind.wrap IntKind.u32 (r.epoch + 1), leadN r op, if op = 2 then 3 else if op = 7 ∨ op = 8 then 2 else 1, if op = 4 ∨ op = 5 then IntKind.wrap IntKind.i64 (1 - leadN r op) else leadN r op, decide (op = 5), false⟩
  else ⟨0, 0, 0, 0, 0, 0, false, false⟩
def ctWrites : SCall := Ct (fun a : Int × R => [.int .i64 (.sym a.1), a.2.l]) (fun _ => True) (fun a => .tup [.bool (.sym (writesX a.1 a.2 = true)), .int .i64 (.sym (writesE a.1 a.2))])
def ctOrder : SCall := Ct (fun a : Int × R × Int => [.int .i64 (.sym a.1), a.2.1.l, .int .u8 (.sym a.2.2)]) (fun _ => True) (fun a => .int .i64 (.sym (orderE a.1 a.2.1 a.2.2)))
def ctJoin : SCall := Ct (fun a : Int × R × Int => [.int .i64 (.sym a.1), a.2.1.l, .int .u8 (.sym a.2.2)]) (fun _ => True) (fun a => .int .i64 (.sym (joinE a.1 a.2.1 a.2.2)))
def ctNext : SCall := Ct (fun a : R × Int => [a.1.l, .int .u8 (.sym a.2)]) (fun _ => True) (fun a => .tup [(nextR a.1 a.2).l, .int .i64 (.sym (nextE a.1 a.2))])
def sxL : SX := ⟨fun _ => none, ctOf [(4, ctAlive), (5, ctCheck), (11, ctWrites), (8, ctOrder), (9, ctJoin), (10, ctNext)], lpOf []⟩

end
end Go.Proofs.Ytaefpedblfhabaa.VM
