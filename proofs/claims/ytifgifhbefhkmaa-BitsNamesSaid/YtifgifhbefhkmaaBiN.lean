/- Sets of tracks: the examples, carried out. No conditions. -/
import Derived.Test.YtifgifhbefhkmaaProg
import Derived.KernelRfl
import Derived.Test.YtifgifhbefhkmaaBiD
namespace Go.Proofs.Ytifgifhbefhkmaa.VM
open Go Go.RowKit
set_option linter.unusedVariables false
set_option linter.unusedSimpArgs false
set_option maxRecDepth 100000
noncomputable section
def cfX : Cfg := ⟨fun f => Nat.beq f 46, fun _ => false, fun _ => none⟩
def cfN : Cfg := ⟨fun f => Nat.beq f 25 || Nat.beq f 46 || Nat.beq f 30 || Nat.beq f 27, fun _ => false, fun f => bif Nat.beq f 36 then some collectG else bif Nat.beq f 20 then some (nextF cfX 200) else none⟩
theorem cfN_ok : ExtOK Try.prog cfN := by
  intro f g hf base vs rv blks h
  have hf : (bif Nat.beq f 36 then some collectG else bif Nat.beq f 20 then some (nextF cfX 200) else none) = some g := hf
  cases hq : Nat.beq f 36 with
  | true =>
    rw [hq] at hf
    have := Nat.eq_of_beq_eq_true hq
    subst this
    cases hf
    exact collect_iso h
  | false =>
    rw [hq] at hf
    cases hr : Nat.beq f 20 with
    | true =>
      rw [hr] at hf
      have := Nat.eq_of_beq_eq_true hr
      subst this
      cases hf
      exact next_iso extOK_none h
    | false => rw [hr] at hf; cases hf
theorem alive_val : vcall Try.prog cfN 200 23 0 [] = some (.bool true, []) := by kernel_rfl
theorem names_val : vcall Try.prog cfN 200 6 0 [] = some (.bool true, []) := by kernel_rfl

end
end Go.Proofs.Ytifgifhbefhkmaa.VM
