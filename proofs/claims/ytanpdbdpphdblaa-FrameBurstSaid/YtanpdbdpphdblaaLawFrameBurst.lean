-- written by wip/myprint.py out of the translation
import Derived.Test.YtanpdbdpphdblaaRows
import Derived.Test.YtanpdbdpphdblaaPFrx5
import Derived.Test.YtanpdbdpphdblaaPureFrameBurst
import Derived.Test.YtanpdbdpphdblaaRowOpen
import Derived.WalkKit
import Derived.ProofKit
import Derived.OpenShut
import Derived.ShutString
import Derived.ChangeOld
import Derived.Below
import Derived.SizedLaws
namespace Go.Proofs.Ytanpdbdpphdblaa.frameBurst
open Go.ChangeShapes Go.WideShapes Go.ChangeAt Go.RowKit Go.Proofs.Ytanpdbdpphdblaa.RowOpen Go.Proofs.Ytanpdbdpphdblaa.PFr Go.Proofs.YtanpdbdpphdblaaW.PrintWords
open Go.ChangeMaps (open_string shut_string)
set_option linter.unusedVariables false
theorem own : ownKnob Try.prog.godebug = none := by kernel_rfl
theorem laidOut : laidOutB Try.prog = true := by kernel_rfl
theorem opens25 : Opens Try.prog 25 k25 G25 :=
  opens_struct (ts := [22, 22, 22, 22, 23]) Try.underlying25 (by kernel_rfl) (by kernel_rfl) (by kernel_rfl) (opensF_cons (opens_int Try.underlying22 (by kernel_rfl)) (opensF_cons (opens_int Try.underlying22 (by kernel_rfl)) (opensF_cons (opens_int Try.underlying22 (by kernel_rfl)) (opensF_cons (opens_int Try.underlying22 (by kernel_rfl)) (opensF_one (opens_slice Try.underlying23 (by kernel_rfl) (opens_int Try.underlying5 (by kernel_rfl)))))))) (fun x : S25 => (x.f0, x.f1, x.f2, x.f3, x.f4)) (fun p => ⟨p.1, p.2.1, p.2.2.1, p.2.2.2.1, p.2.2.2.2⟩) (fun _ => rfl)
set_option maxRecDepth 100000 in
theorem lifted (os : Os) (started : os.Started) (H : Type) (enc : TypeId × Value → H) :
    ReturnsInHanded {} Try.checked os 5 .any (Rows.frameBurstSpec.pre6 enc Try.prog Try.f5 Rows.frameBurstRow.domain false) (Rows.frameBurstSpec.post enc Try.prog Try.f5 false true false false) := by
  refine returnsInHanded_of_change_sized (C := Try.checked) own started (by kernel_rfl) Try.func5
    (ChangeSpec.witness6 (enc := enc) (C := Try.checked) false ⟨#[], #[.agg #[.int .u32 0, .int .u32 0, .int .u32 0, .int .u32 0, .slice none 0 0], .int .i64 0, .int .u32 0], []⟩ 8 (by kernel_rfl) (by kernel_rfl) (by kernel_rfl) (by kernel_rfl)) ?_
  intro W base args ds gs before hval0 hW hcnd hsz0 _
  have hval : ∀ (j : Nat) t v, Try.f5.params[j]? = some t → args[j]? = some v → Value.okWide Try.prog W .any base t v := hval0
  have hW' := hW
  obtain ⟨p, q, hA0, hV, rfl, hfz, hnd⟩ := hW
  have hA : DataW.TrodAll enc Try.prog W 0 (fun _ => true) true Try.f5.params.toList args.toList ds p := hA0
  rw [Try.params5] at hA hval
  obtain ⟨v0, vs0, d0, ds0, p0, q0, hargs, rfl, rfl, h0, r0⟩ := trodAll_cons hA
  obtain ⟨v1, vs1, d1, ds1, p1, q1, rfl, rfl, rfl, h1, r1⟩ := trodAll_cons r0
  obtain ⟨v2, vs2, d2, ds2, p2, q2, rfl, rfl, rfl, h2, r2⟩ := trodAll_cons r1
  obtain ⟨rfl, rfl, rfl⟩ := trodAll_nil r2
  obtain rfl : args = #[v0, v1, v2] := by cases args; simp_all
  obtain ⟨rfl, rfl⟩ := trodVars_none hV
  have k0 := h0
  have lt0 : ∀ x ∈ p0, x.block < W.heap.size := by obtain ⟨m, hm⟩ := k0; exact DataW.trod_lt m _ _ _ hm
  obtain ⟨s0, cs0, rfl, K0, g0⟩ := struct_opens Try.underlying25 opens25 (hval 0 25 v0 rfl rfl) h0
  obtain ⟨A0_4, c0_4, rfl, lc0_4, hr0_4⟩ := k25_open K0
  obtain ⟨a1, rfl, rfl, rfl, w1⟩ := open_int Try.underlying3 (hval 1 3 v1 rfl rfl) h1
  obtain ⟨a2, rfl, rfl, rfl, w2⟩ := open_int Try.underlying22 (hval 2 22 v2 rfl rfl) h2
  clear hA0 hval0 hsz0
  refine (catamaranlaw15_FrameBurst.walk Pure.FrameBurst s0.f0 s0.f1 s0.f2 s0.f3 A0_4 c0_4 s0.f4 a1 a2 W hr0_4 lc0_4 g0.1 g0.2.1 g0.2.2.1 g0.2.2.2.1 g0.2.2.2.2 w1 w2).mono fun e W' ⟨he, bel⟩ => ?_
  subst he
  exact ⟨_, rfl, _, _, _, [], _, [], hW', trodAll_mk1 (shut_bool Try.underlying4 _), (trodAll_cons_mk (Below.trod laidOut (by kernel_rfl) (of_decide_eq_true (by kernel_rfl)) k0 bel lt0) (trodAll_cons_mk (shut_int Try.underlying3 w1) (trodAll_cons_mk (shut_int Try.underlying22 w2) trodAll_mk0))), rfl, bel.frame _, fun h => by cases h⟩
theorem over : Rows.frameBurstRow.holds Try.pinned (OpenSpec.ofChange Rows.frameBurstSpec) :=
  OpenClaim.holds_of_wide 5 Try.f5 rfl rfl rfl rfl rfl rfl rfl ⟨rfl, rfl, rfl, rfl, rfl⟩ rfl rfl rfl rfl rfl (by kernel_rfl) Try.func5 (by kernel_rfl)
    (of_decide_eq_true (by kernel_rfl)) (by unfold Func.isWrapper; first | (rw [if_pos (by decide +kernel)]; kernel_rfl) | (rw [if_neg (by decide +kernel)]; exact ⟨rfl, rfl⟩))
    (fun os started H enc _ => lifted os started H enc)
theorem proved : Rows.FrameBurstSaid := over
#print axioms proved
end Go.Proofs.Ytanpdbdpphdblaa.frameBurst
namespace Go.Proofs.Ytanpdbdpphdblaa
/-- The row, under a short name, for the claim. -/
theorem frameBurst_holds : Rows.FrameBurstSaid := frameBurst.proved
end Go.Proofs.Ytanpdbdpphdblaa
