/- Values with labels: functions that are known, and how they are put together. No conditions. -/
import Derived.Test.YtifgifhbefhkmaaSVs
namespace Go.Proofs.Ytifgifhbefhkmaa.VM
set_option linter.unusedSimpArgs false
set_option linter.unusedVariables false
open Go Go.RowKit
noncomputable section

/-- A function that is known: what it is handed, on what conditions, and what it answers. -/
def Ct {α : Type} (args : α → List SV) (pre : α → Prop) (res : α → SV) : SCall := fun _ _ as K => ∃ a, sles as (args a) ∧ pre a ∧ K (res a) []
theorem ct_vc {P : Program} {cf : Cfg} {sx : SX} (hsx : SXOK P cf sx) {m : Nat} {f : FuncId} {α : Type} {args : α → List SV} {pre : α → Prop} {res : α → SV} (h : ∀ a, pre a → scallI sx P cf (sexec sx P cf m) f 0 (args a) (post (res a))) : CtOK P cf f (Ct args pre res) := by
  intro base as K hK as' has vbase
  obtain ⟨a, h1, h2, h3⟩ := hK
  obtain ⟨rv, blks, srv, sblks, hN, g1, g2, g3⟩ := scallI_of hsx (sexec_of hsx m) f 0 (args a) _ (h a h2) as' (sles_rel h1 has) vbase
  obtain ⟨g4, g5⟩ := post_of g1
  subst g4
  cases g2
  rw [show newsE noE 0 vbase ([] : List SBlk).length = noE from newsE_zero] at g3
  refine ⟨rv, [], res a, [], hN, h3, .nil, ?_⟩
  rw [show newsE noE base vbase ([] : List SBlk).length = noE from newsE_zero]
  exact sle_rel 12 _ _ _ g5 g3
def ctOf (l : List (FuncId × SCall)) (f : FuncId) : Option SCall := List.rec (motive := fun _ => Option SCall) none (fun p _ ih => bif Nat.beq p.1 f then some p.2 else ih) l
def lpOf (l : List (Nat × SLoop)) (i : Nat) : Option SLoop := List.rec (motive := fun _ => Option SLoop) none (fun p _ ih => bif Nat.beq p.1 i then some p.2 else ih) l
theorem ctOf_mem : ∀ {l : List (FuncId × SCall)} {f : FuncId} {C : SCall}, ctOf l f = some C → (f, C) ∈ l
  | [], f, C, h => by cases h
  | p :: l, f, C, h => by
    have h' : (bif Nat.beq p.1 f then some p.2 else ctOf l f) = some C := h
    cases hq : Nat.beq p.1 f with
    | true =>
      rw [hq] at h'
      cases h'
      have := Nat.eq_of_beq_eq_true hq
      subst this
      exact List.mem_cons_self ..
    | false => rw [hq] at h'; exact List.mem_cons_of_mem _ (ctOf_mem h')
theorem lpOf_mem : ∀ {l : List (Nat × SLoop)} {f : Nat} {C : SLoop}, lpOf l f = some C → (f, C) ∈ l
  | [], f, C, h => by cases h
  | p :: l, f, C, h => by
    have h' : (bif Nat.beq p.1 f then some p.2 else lpOf l f) = some C := h
    cases hq : Nat.beq p.1 f with
    | true =>
      rw [hq] at h'
      cases h'
      have := Nat.eq_of_beq_eq_true hq
      subst this
      exact List.mem_cons_self ..
    | false => rw [hq] at h'; exact List.mem_cons_of_mem _ (lpOf_mem h')
theorem sxok_of {P : Program} {cf : Cfg} {row : TypeId → Option SRow} {l : List (FuncId × SCall)} {lp : List (Nat × SLoop)} (h : ∀ p ∈ l, CtOK P cf p.1 p.2) (k : ∀ p ∈ lp, ∀ ss K, p.2.C ss K → SWP P cf (.loop (loopBody P p.2.f p.2.k)) ss K) : SXOK P cf ⟨row, ctOf l, lpOf lp⟩ :=
  ⟨fun f C hf => h _ (ctOf_mem hf), fun i L hi => k _ (lpOf_mem hi)⟩
theorem all_nil {α : Type 1} {p : α → Prop} : ∀ x ∈ ([] : List α), p x := fun x hx => by cases hx
theorem all_cons {α : Type 1} {p : α → Prop} {a : α} {l : List α} (h : p a) (k : ∀ x ∈ l, p x) : ∀ x ∈ a :: l, p x := fun x hx => by
  rcases List.mem_cons.1 hx with rfl | hx
  · exact h
  · exact k x hx
/-- The same, by a telling of the arguments that says more. -/
theorem ct_vc' {P : Program} {cf : Cfg} {sx : SX} (hsx : SXOK P cf sx) {m : Nat} {f : FuncId} {α : Type} {args : α → List SV} {pre : α → Prop} {res : α → SV} (h : ∀ a, pre a → ∃ as', sles (args a) as' ∧ scallI sx P cf (sexec sx P cf m) f 0 as' (post (res a))) : CtOK P cf f (Ct args pre res) := by
  intro base as K hK as' has vbase
  obtain ⟨a, h1, h2, h3⟩ := hK
  obtain ⟨as2, h4, h5⟩ := h a h2
  obtain ⟨rv, blks, srv, sblks, hN, g1, g2, g3⟩ := scallI_of hsx (sexec_of hsx m) f 0 as2 _ h5 as' (sles_rel h4 (sles_rel h1 has)) vbase
  obtain ⟨g4, g5⟩ := post_of g1
  subst g4
  cases g2
  rw [show newsE noE 0 vbase ([] : List SBlk).length = noE from newsE_zero] at g3
  refine ⟨rv, [], res a, [], hN, h3, .nil, ?_⟩
  rw [show newsE noE base vbase ([] : List SBlk).length = noE from newsE_zero]
  exact sle_rel 12 _ _ _ g5 g3
/-! Numbers that fit. -/
theorem wrap_in (k : IntKind) {n : Int} (h1 : k.min ≤ n) (h2 : n ≤ k.max) : k.wrap n = n := by
  cases k <;> simp [IntKind.wrap, IntKind.bits, IntKind.signed, IntKind.min, IntKind.max] at * <;> first | omega | (split <;> omega)
theorem wr_i64 {n : Int} (h1 : -9223372036854775808 ≤ n) (h2 : n ≤ 9223372036854775807) : IntKind.i64.wrap n = n := wrap_in .i64 h1 h2
theorem wr_u8 {n : Int} (h1 : 0 ≤ n) (h2 : n ≤ 255) : IntKind.u8.wrap n = n := wrap_in .u8 h1 h2
theorem wr_u32 {n : Int} (h1 : 0 ≤ n) (h2 : n ≤ 4294967295) : IntKind.u32.wrap n = n := wrap_in .u32 h1 h2
end
end Go.Proofs.Ytifgifhbefhkmaa.VM
