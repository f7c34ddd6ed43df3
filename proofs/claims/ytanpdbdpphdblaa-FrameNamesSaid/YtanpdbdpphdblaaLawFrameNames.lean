/- The law FrameNames: it answers true. No conditions. -/
import Derived.Test.YtanpdbdpphdblaaRows
import Derived.Test.YtanpdbdpphdblaaVMx
import Derived.WalkKit
import Derived.ProofKit
import Derived.OpenShut
import Derived.ShutString
import Derived.ChangeOld
import Derived.Below
import Derived.SizedLaws
namespace Go.Proofs.Ytanpdbdpphdblaa.frameNames
open Go.ChangeShapes Go.WideShapes Go.ChangeAt Go.RowKit
open Go.ChangeMaps (open_string shut_string)
set_option linter.unusedVariables false
theorem own : ownKnob Try.prog.godebug = none := by kernel_rfl
/-- Which functions hand on rows that are written, and which work in their caller's memory. -/
noncomputable def cf : VM.Cfg := ⟨fun f => ([33,34,13,46,44,42,41,47,40,28,11,26,19] : List Nat).contains f, fun f => ([50] : List Nat).contains f, fun _ => none⟩
theorem value : VM.vcall Try.prog cf 100000 3 0 [] = some (.bool true, []) := by kernel_rfl
theorem walk (W : World) : Calls Try.prog 3 #[] W (fun e w' => e = .returned (.bool true) ∧ Below W.heap.size W w') :=
  VM.calls_true (cs := []) (by kernel_rfl) VM.extOK_none value .nil
set_option maxRecDepth 100000 in
theorem lifted (os : Os) (started : os.Started) (H : Type) (enc : TypeId × Value → H) :
    ReturnsInHanded {} Try.checked os 3 .any (Rows.frameNamesSpec.pre6 enc Try.prog Try.f3 Rows.frameNamesRow.domain false) (Rows.frameNamesSpec.post enc Try.prog Try.f3 false true false false) := by
  refine returnsInHanded_of_change_sized (C := Try.checked) own started (by kernel_rfl) Try.func3
    (ChangeSpec.witness6 (enc := enc) (C := Try.checked) false ⟨#[], #[], []⟩ 8 (by kernel_rfl) (by kernel_rfl) (by kernel_rfl) (by kernel_rfl)) ?_
  intro W base args ds gs before hval0 hW hcnd hsz0 _
  have hW' := hW
  obtain ⟨p, q, hA0, hV, rfl, hfz, hnd⟩ := hW
  have hA : DataW.TrodAll enc Try.prog W 0 (fun _ => true) true Try.f3.params.toList args.toList ds p := hA0
  rw [Try.params3] at hA
  obtain ⟨rfl, rfl, rfl⟩ := trodAll_none hA
  obtain ⟨rfl, rfl⟩ := trodVars_none hV
  clear hA0 hval0 hsz0
  refine (walk W).mono fun e W' ⟨he, bel⟩ => ?_
  subst he
  exact ⟨_, rfl, _, _, _, [], _, [], hW', trodAll_mk1 (shut_bool Try.underlying4 _), trodAll_mk0, rfl, bel.frame _, fun h => by cases h⟩
theorem over : Rows.frameNamesRow.holds Try.pinned (OpenSpec.ofChange Rows.frameNamesSpec) :=
  OpenClaim.holds_of_wide 3 Try.f3 rfl rfl rfl rfl rfl rfl rfl ⟨rfl, rfl, rfl, rfl, rfl⟩ rfl rfl rfl rfl rfl (by kernel_rfl) Try.func3 (by kernel_rfl)
    (of_decide_eq_true (by kernel_rfl)) (by unfold Func.isWrapper; first | (rw [if_pos (by decide +kernel)]; kernel_rfl) | (rw [if_neg (by decide +kernel)]; exact ⟨rfl, rfl⟩))
    (fun os started H enc _ => lifted os started H enc)
theorem proved : Rows.FrameNamesSaid := over
#print axioms proved
end Go.Proofs.Ytanpdbdpphdblaa.frameNames
namespace Go.Proofs.Ytanpdbdpphdblaa
/-- The row, under a short name, for the claim. -/
theorem frameNames_holds : Rows.FrameNamesSaid := frameNames.proved
end Go.Proofs.Ytanpdbdpphdblaa
