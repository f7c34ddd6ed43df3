/- The machine of values: a table of calls that have been carried out. No conditions. -/
import Derived.Test.YtifgifhbefhkmaaVMy
namespace Go.Proofs.Ytifgifhbefhkmaa.VM
set_option linter.unusedVariables false
open Go Go.RowKit
noncomputable section
def look : List (List V × V) → List V → Option V
  | [], _ => none
  | (as, rv) :: r, vs => if allL (veq 60) as vs = true then some rv else look r vs
def tabG (tab : List (List V × V)) : Nat → List V → Option (V × List Blk) := fun _ vs => (look tab vs).map fun rv => (rv, [])
theorem look_mem : ∀ {tab : List (List V × V)} {vs : List V} {rv : V}, look tab vs = some rv → (vs, rv) ∈ tab
  | [], vs, rv, h => by cases h
  | (as, r) :: tab, vs, rv, h => by
    rw [look] at h
    split at h
    · rename_i q
      cases h
      rw [allL_eq (veq_eq 60) q]
      exact List.mem_cons_self ..
    · exact List.mem_cons_of_mem _ (look_mem h)
theorem tab_ok {P : Program} (hm : P.follows .mixedOrders = true) {cf cf' : Cfg} (hext : ExtOK P cf) (hext' : ExtOK P cf') {n : Nat} {f : FuncId} {tab : List (List V × V)} (h : ∀ p ∈ tab, vcall P cf n f 0 p.1 = some (p.2, [])) : ExtOK P (cf'.by f (tabG tab)) := by
  refine by_ok hext' fun base vs rv' blks h' => ?_
  unfold tabG at h'
  obtain ⟨rv, h1, h2⟩ := map_some h'
  cases h2
  exact iso_base (vcall_ok hm hext n f 0 vs _ [] (h _ (look_mem h1)))
end
end Go.Proofs.Ytifgifhbefhkmaa.VM
