/- The machine of values: calls that have been carried out once. No conditions. -/
import Derived.Test.YtifgifhbefhkmaaVMx
namespace Go.Proofs.Ytifgifhbefhkmaa.VM
set_option linter.unusedVariables false
open Go Go.RowKit
noncomputable section
def memoG (rv : V) : Nat → List V → Option (V × List Blk) := fun _ vs => match vs with
  | [] => some (rv, [])
  | _ => none
def Cfg.memo (cf : Cfg) (f : FuncId) (rv : V) : Cfg := ⟨cf.thaw, cf.shared, fun x => bif Nat.beq x f then some (memoG rv) else cf.ext x⟩
def Cfg.by (cf : Cfg) (f : FuncId) (g : Nat → List V → Option (V × List Blk)) : Cfg := ⟨cf.thaw, cf.shared, fun x => bif Nat.beq x f then some g else cf.ext x⟩
theorem iso_base {P : Program} {f : FuncId} {base : Nat} {vs : List V} {rv : V} (h : IsoSound P f 0 vs rv []) : IsoSound P f base vs rv [] := by
  intro w O cargs hr
  refine (h w O cargs hr).mono fun e w' ⟨cv, ρ, h1, h2, h3, h4, h5⟩ => ?_
  exact ⟨cv, ρ, h1, h2, h3, h4, fun b hb => absurd (h5 b hb).2 (by simp)⟩
theorem by_ok {P : Program} {cf : Cfg} (hext : ExtOK P cf) {f : FuncId} {g : Nat → List V → Option (V × List Blk)} (hg : ∀ base vs rv blks, g base vs = some (rv, blks) → IsoSound P f base vs rv blks) : ExtOK P (cf.by f g) := by
  intro x g' hx base vs rv blks h
  simp only [Cfg.by] at hx
  cases hq : Nat.beq x f with
  | true =>
    rw [hq] at hx
    cases hx
    rw [Nat.eq_of_beq_eq_true hq]
    exact hg base vs rv blks h
  | false =>
    rw [hq] at hx
    exact hext x g' hx base vs rv blks h
theorem memo_ok {P : Program} (hm : P.follows .mixedOrders = true) {cf : Cfg} (hext : ExtOK P cf) {n : Nat} {f : FuncId} {rv : V} (h : vcall P cf n f 0 [] = some (rv, [])) : ExtOK P (cf.memo f rv) := by
  refine by_ok hext fun base vs rv' blks h' => ?_
  unfold memoG at h'
  split at h'
  · cases h'
    exact iso_base (vcall_ok hm hext n f 0 [] rv [] h)
  · cases h'
end
end Go.Proofs.Ytifgifhbefhkmaa.VM
