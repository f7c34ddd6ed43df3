/- The machine of values: slices.Clone at []byte, a contract. No conditions. -/
import Derived.Test.YtifgifhbefhkmaaVMx
import Derived.Test.YtifgifhbefhkmaaProg
import Derived.WalkKit
import Derived.Deep.LoopGhost
import Derived.Lib.Walk
import Derived.Lib.SliceRun
import Derived.OwnWalk
import Derived.KernelRfl
namespace Go.Proofs.Ytifgifhbefhkmaa.VM
set_option linter.unusedSimpArgs false
set_option linter.unusedVariables false
open Go Go.RowKit
noncomputable section
def u8s : List V → Option (List Int)
  | [] => some []
  | .int .u8 x :: r => (u8s r).map (x :: ·)
  | _ :: _ => none
theorem u8s_rel {E : Env} : ∀ {cs : List V} {x : List Int} {cvs : List Value}, u8s cs = some x → RelL E cs cvs → cvs = x.map (Value.int .u8)
  | [], x, cvs, h, r => by cases h; cases r; rfl
  | c :: cs, x, cvs, h, r => by
    cases r with
    | cons r s =>
      unfold u8s at h
      split at h
      · rename_i heq; cases heq
      · rename_i y r' heq
        cases heq
        obtain ⟨ys, h1, rfl⟩ := map_some h
        cases r
        rw [u8s_rel h1 s]
        rfl
      · cases h
abbrev Ew (w : World) (B : Nat) (O : Nat → Prop) : Env := ⟨w, fun _ => none, fun _ => none, B, O⟩
theorem own_rel {w : World} {B base : Nat} {O : Nat → Prop} (hB : B ≤ base) {e n : Nat} {v : Value} {inner : List Value} (ho : w.ownsRow base e 1 v n inner) {cs : List V} (hr : RelL (Ew w B O) cs inner) : Rel (Ew w B O) (.slI true cs n false) v := by
  obtain ⟨h1, h2⟩ := ho
  have hl := hr.length
  rcases h2 with ⟨rfl, rfl⟩ | ⟨g, cap, cur, rfl, hg, hh, hn, _, hsz, htk⟩
  · cases hr with
    | nil => exact .slI0 fun q => by cases q
    | cons _ _ => simp at h1
  · refine .slI ⟨?_, fun q => ?_, fun b blk e o q => by cases q⟩ (fun _ => Nat.le_trans hB hg) hn (fun q => by cases q) hr fun i u hu => ?_
    · rcases Nat.lt_or_ge g w.heap.size with q | q
      · exact q
      · simp [Array.getElem?_eq_none q] at hh
    · have q' : g < B := q
      omega
    · show w.cell? ⟨g, 0 + i, none⟩ = some u
      rw [Nat.zero_add, cell_at hh, ← Array.getElem?_toList]
      rw [← htk, List.getElem?_take] at hu
      split at hu
      · exact hu
      · cases hu
def rowI (x : List Int) : V := .slI true (x.map (V.int .u8)) x.length false
section
open Go.Lib
theorem clone_nil (n c : Nat) (w : World) : Calls Try.prog 27 #[.slice none n c] w fun e w' => e = .returned (.slice none 0 0) ∧ w' = w := by
  have hq : ∀ (w : World) (a : Option Addr) (n c n' c' : Nat), (binOp .eql 22 (.slice a n c) (.slice none n' c')).run Try.prog w = .ok (.bool a.isNone) w := fun w a n c n' c' => Lib.run_eql_slice_nil w _ _ a n c n' c' Try.underlying22
  go_enter Try.func27, Try.ntmps27
  go_wp2
  go_ret
  exact ⟨rfl, rfl⟩
set_option maxHeartbeats 2000000 in
set_option maxRecDepth 100000 in
theorem clone_row (b off n c : Nat) (zs : List Int) (w : World) (hz : n ≤ zs.length) (hbig : n ≤ 140737488355328) (hc : ∀ j, j < zs.length → w.cell? ⟨b, off + j, none⟩ = some (.int .u8 (zs.getD j 0))) :
    Calls Try.prog 27 #[.slice (some ⟨b, off, none⟩) n c] w fun e w' => ∃ v', e = .returned v' ∧ w'.ownsRow w.heap.size 5 1 v' n ((zs.take n).map (Value.int .u8)) ∧ Below w.heap.size w w' := by
  obtain ⟨i0, hi, hz0, hz1, hz2⟩ := info_parts (P := Try.prog) (e := 5) (z := .int .u8 0) (size := 1) (bytes := 1) (by kernel_rfl)
  have hq : ∀ (w : World) (a : Option Addr) (n c n' c' : Nat), (binOp .eql 22 (.slice a n c) (.slice none n' c')).run Try.prog w = .ok (.bool a.isNone) w := fun w a n c n' c' => Lib.run_eql_slice_nil w _ _ a n c n' c' Try.underlying22
  have A : Aside (∀ j, j < zs.length → w.cell? ⟨b, off + j, none⟩ = some (.int .u8 (zs.getD j 0))) := hc
  clear hc
  go_enter Try.func27, Try.ntmps27
  go_wp2_with (at_builtin; refine wpList_append_own _ rfl _ _ 22 rfl w.heap.size 5 i0 (.int .u8 0) 1 1 Try.underlying22 hi hz0 hz1 hz2 rfl (by decide) _ _ _ rfl (World.ownsRow_made w #[] 0 (Nat.le_refl _) (Nat.zero_le _) rfl) ⟨b, off, none⟩ n c ((zs.take n).map (Value.int .u8)) rfl ?qc1 ?qc2 ?qc3 ?qc4 ?qc5 ?qc6 ?_)
  case qc1 => simp; omega
  case qc2 =>
    intro j u hj
    have hjn : j < n ∧ j < zs.length := by
      have := (List.getElem?_eq_some_iff.1 hj).1
      simp at this
      omega
    rw [Addr.add_lit]
    refine Lib.cell?_alloc_some _ ?_
    rw [A.out j hjn.2]
    have e : ((zs.take n).map (Value.int .u8))[j]? = some (Value.int .u8 (zs.getD j 0)) := by simp [List.getD, hjn.1, List.getElem?_eq_getElem hjn.2]
    rw [e] at hj
    exact hj
  case qc3 => intro u hu; obtain ⟨x, _, rfl⟩ := List.mem_map.1 hu; rfl
  case qc4 => unfold maxLen; omega
  case qc5 => omega
  case qc6 => simp
  intro v' w1 hown hgrow hnil
  go_wp2
  go_ret
  refine ⟨v', rfl, by simpa using hown, ?_⟩
  exact ((Below.refl _ w).alloc (Nat.le_refl _) _).grown hgrow (by simp) (by intro k hk; simp [Value.ownBlock] at hk; omega)
set_option maxHeartbeats 2000000 in
set_option maxRecDepth 100000 in
theorem clone_zero (a : Addr) (c : Nat) (w : World) :
    Calls Try.prog 27 #[.slice (some a) 0 c] w fun e w' => ∃ v', e = .returned v' ∧ w'.ownsRow w.heap.size 5 1 v' 0 [] ∧ Below w.heap.size w w' := by
  obtain ⟨i0, hi, hz0, hz1, hz2⟩ := info_parts (P := Try.prog) (e := 5) (z := .int .u8 0) (size := 1) (bytes := 1) (by kernel_rfl)
  have hq : ∀ (w : World) (a : Option Addr) (n c n' c' : Nat), (binOp .eql 22 (.slice a n c) (.slice none n' c')).run Try.prog w = .ok (.bool a.isNone) w := fun w a n c n' c' => Lib.run_eql_slice_nil w _ _ a n c n' c' Try.underlying22
  go_enter Try.func27, Try.ntmps27
  go_wp2_with (at_builtin; refine wpList_append_own _ rfl _ _ 22 rfl w.heap.size 5 i0 (.int .u8 0) 1 1 Try.underlying22 hi hz0 hz1 hz2 rfl (by decide) _ _ _ rfl (World.ownsRow_made w #[] 0 (Nat.le_refl _) (Nat.zero_le _) rfl) a 0 c [] rfl rfl (by intro j u hj; simp at hj) (by intro u hu; cases hu) (by unfold maxLen; omega) (by omega) (by simp) ?_)
  intro v' w1 hown hgrow hnil
  go_wp2
  go_ret
  refine ⟨v', rfl, by simpa using hown, ?_⟩
  exact ((Below.refl _ w).alloc (Nat.le_refl _) _).grown hgrow (by simp) (by intro k hk; simp [Value.ownBlock] at hk; omega)
end
/-- slices.Clone, of values. -/
def cloneG (_ : Nat) (vs : List V) : Option (V × List Blk) :=
  match vs with
  | [.nilSl] => some (.nilSl, [])
  | [.slI _ cs n _] => if n ≤ cs.length ∧ n < 140737488355328 then (u8s (cs.take n)).map fun x => (rowI x, []) else none
  | _ => none
theorem own_u8 {w : World} {B base : Nat} {O : Nat → Prop} (hB : B ≤ base) {v : Value} {x : List Int} (h : w.ownsRow base 5 1 v x.length (x.map (Value.int .u8))) : Rel (Ew w B O) (rowI x) v := by
  refine own_rel hB h (RelL.of_get (by simp) fun i a b ha hb => ?_)
  simp only [List.getElem?_map] at ha hb
  cases hx : x[i]? with
  | none => simp [hx] at ha
  | some y =>
    simp [hx] at ha hb
    subst ha hb
    exact .int _ _
theorem clone_iso {base : Nat} {vs : List V} {rv : V} {blks : List Blk} (h : cloneG base vs = some (rv, blks)) : IsoSound Try.prog 27 base vs rv blks := by
  intro w O cargs hargs
  have fin : ∀ {x : List Int} {e : Ending} {w' : World}, (∃ v', e = .returned v' ∧ w'.ownsRow w.heap.size 5 1 v' x.length (x.map (Value.int .u8)) ∧ Below w.heap.size w w') →
      ∃ cv ρ, e = .returned cv ∧ Below w.heap.size w w' ∧ HRel ⟨w', newsF [] base (fun _ => none), ρ, w.heap.size, O⟩ ∧ Rel ⟨w', newsF [] base (fun _ => none), ρ, w.heap.size, O⟩ (rowI x) cv ∧ ∀ b, ρ b ≠ none → base ≤ b ∧ b < base + ([] : List Blk).length := by
    rintro x e w' ⟨v', rfl, ho, hb⟩
    exact ⟨_, fun _ => none, rfl, hb, ⟨(fun b blk hb => by cases hb), (fun b b' blk blk' e e' c o o' h1 => by cases h1), hb.size⟩, own_u8 (Nat.le_refl _) ho, fun b hb => absurd rfl hb⟩
  unfold cloneG at h
  split at h
  · cases h
    cases hargs with
    | cons r s =>
      cases s
      cases r
      refine (clone_nil 0 0 w).mono ?_
      rintro e w' ⟨rfl, rfl⟩
      exact ⟨_, fun _ => none, rfl, Below.refl _ _, ⟨(fun b blk hb => by cases hb), (fun b b' blk blk' e e' c o o' h1 => by cases h1), Nat.le_refl _⟩, .nilSl, fun b hb => absurd rfl hb⟩
  · rename_i fr cs n tight
    split at h
    · rename_i hn
      obtain ⟨p, hx, hp⟩ := Option.map_eq_some_iff.1 h
      cases hp
      cases hargs with
      | cons r s =>
        cases s
        generalize hN : n = N at r
        cases r with
        | @slI0 fr tight A cap ht =>
          subst hN
          have : p = [] := by
            have := hx; simp [u8s] at this; exact this
          subst this
          cases A with
          | none =>
            refine (clone_nil 0 cap w).mono ?_
            rintro e w' ⟨rfl, rfl⟩
            exact ⟨_, fun _ => none, rfl, Below.refl _ _, ⟨(fun b blk hb => by cases hb), (fun b b' blk blk' e e' c o o' h1 => by cases h1), Nat.le_refl _⟩, .slI0 (fun q => by cases q), fun b hb => absurd rfl hb⟩
          | some a => exact (clone_zero a cap w).mono fun e w' h => fin h
        | @slI fr tight cs cvs n2 cap c o hs hf hnc ht hr hc =>
          subst hN
          have e1 := u8s_rel hx (hr.take n)
          have hl := congrArg List.length e1
          have hrl := hr.length
          simp only [List.length_take, List.length_map] at hl
          have hpn : p.length = n := by omega
          by_cases h0 : n = 0
          · subst h0
            have : p = [] := List.length_eq_zero_iff.1 hpn
            subst this
            exact (clone_zero _ cap w).mono fun e w' h => fin h
          · refine (clone_row c o n cap p w (by omega) (by omega) fun j hj => ?_).mono fun e w' h => fin (by
              obtain ⟨v', q1, q2, q3⟩ := h
              refine ⟨v', q1, ?_, q3⟩
              rw [hpn]
              rwa [List.take_of_length_le (by omega)] at q2)
            have h1 : (cvs.take n)[j]? = some (.int .u8 (p.getD j 0)) := by rw [e1, List.getElem?_map, List.getD_eq_getElem?_getD, List.getElem?_eq_getElem hj]; rfl
            rw [List.getElem?_take] at h1
            split at h1
            · exact hc j _ h1
            · cases h1
    · cases h
  · cases h
end
end Go.Proofs.Ytifgifhbefhkmaa.VM
