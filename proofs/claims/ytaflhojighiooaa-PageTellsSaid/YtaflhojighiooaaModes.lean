/- Pages: what their functions answer, in modes. No conditions. -/
import Derived.Test.YtaflhojighiooaaProg
import Derived.KernelRfl
import Derived.Test.YtaflhojighiooaaAll
namespace Go.Proofs.Ytaflhojighiooaa.VM
open Go Go.RowKit
set_option linter.unusedVariables false
set_option linter.unusedSimpArgs false
set_option maxRecDepth 100000
noncomputable section
def ctCheck : SCall := Ct (fun c : Conf => [c.l]) Conf.ok (fun _ => .int .i64 (.lit 0))
def ctMay : SCall := Ct (fun c : Conf => [c.l]) Conf.ok (fun _ => .bool (.lit true))
def ctAll : SCall := Ct (fun n : Int => [i64 n]) (fun n => 1 ≤ n ∧ n ≤ 16) (fun n => .tup [allR n, .int .i64 (.lit 0)])
def ctFull : SCall := Ct (fun n : Int => [i64 n]) (fun n => 1 ≤ n ∧ n ≤ 16) (fun n => allR n)
def sxG : SX := ⟨fun _ => none, ctOf [(25, ctCheck), (16, ctMay), (15, ctAll), (11, ctFull)], lpOf []⟩
def u8 (n : Int) : SV := .int .u8 (.sym n)
def zs : Nat → List SV
  | 0 => []
  | n + 1 => .int .u8 (.lit 0) :: zs n
def txtL (pair n bits : Int) : SV := .slI true (.lit ([.int .u8 (.lit 1), u8 (IntKind.u8.wrap pair), u8 (IntKind.u8.wrap n), u8 bits] ++ zs 28)) (.lit 32) false
def ctCheckB : SCall := Ct (fun c : Conf => [c.l]) (fun c => ¬ c.ok) (fun _ => .int .i64 (.lit 8))
def ctMayB : SCall := Ct (fun c : Conf => [c.l]) (fun c => ¬ c.ok) (fun _ => .bool (.lit false))
def sxB : SX := ⟨fun _ => none, ctOf [(25, ctCheckB), (16, ctMayB)], lpOf []⟩
/-- A page's arguments. -/
structure PArg where
  c : Conf
  pair : Int
  n : Int
  bits : Int
def PArg.l (a : PArg) : List SV := [a.c.l, i64 a.pair, i64 a.n, u8 a.bits]
def mask (bits y : Int) : Prop := IntKind.wrap IntKind.u8 ↑(BitVec.toNat (BitVec.ofInt (8 : Nat) bits &&& ~~~BitVec.ofInt (8 : Nat) y)) = (0 : Int)
def PArg.at (a : PArg) : Prop := 0 ≤ a.pair ∧ a.pair < a.c.pairs ∧ 0 ≤ a.n ∧ a.n < (a.c.tracks + 7) / 8
def PArg.good (a : PArg) : Prop := (a.c.ok ∧ 0 ≤ a.bits ∧ a.bits ≤ 255) ∧ a.at ∧ ∀ y, (allB a.c.tracks)[a.n.toNat]? = some y → mask a.bits y
def PArg.poor (a : PArg) : Prop := (a.c.ok ∧ 0 ≤ a.bits ∧ a.bits ≤ 255) ∧ (a.at → ∀ y, (allB a.c.tracks)[a.n.toNat]? = some y → ¬ mask a.bits y)
/-- A page's sector, and all its bits. -/
def PArg.sec (a : PArg) : Int := 2 + 2 * a.c.area + a.pair * ((a.c.tracks + 7) / 8) + a.n
def PArg.msk (a : PArg) : Int := (allB a.c.tracks).getD a.n.toNat 0
def PArg.l3 (a : PArg) : List SV := [a.c.l, i64 a.pair, i64 a.n]
/-- What a function answers to the law's own arguments. -/
def ctOne (l : List SV) (r : SV) : SCall := Ct (fun _ : Unit => l) (fun _ => True) (fun _ => r)
def PArg.txt (a : PArg) : SV := .tup [txtL a.pair a.n a.bits, .int .i64 (.lit 0)]
def PArg.pl (a : PArg) : SV := .tup [.agg [i64 a.sec, txtL a.pair a.n a.bits], .int .i64 (.lit 0)]
def sxPl (a : PArg) : SX := ⟨fun _ => none, ctOf [(4, ctOne a.l a.txt), (5, ctOne a.l a.txt), (8, ctOne a.l3 (.tup [i64 a.sec, u8 a.msk, .int .i64 (.lit 0)])), (13, ctOne a.l3 (i64 a.sec))], lpOf []⟩
def sxLG (a : PArg) : SX := ⟨fun _ => none, ctOf [(4, ctOne a.l a.txt), (5, ctOne a.l a.txt), (6, ctOne a.l a.pl), (7, ctOne a.l a.pl)], lpOf []⟩
def sxLN (a : PArg) (e : Int) : SX := ⟨fun _ => none, ctOf [(4, ctOne a.l (.tup [.nilSl, .int .i64 (.lit e)])), (5, ctOne a.l (.tup [.nilSl, .int .i64 (.lit e)]))], lpOf []⟩

end
end Go.Proofs.Ytaflhojighiooaa.VM
