/- The machine of values: ring.text and ring.List. No conditions. -/
import Derived.Test.YtnjdfalmincpgaaVMring
import Derived.Laws.CopyOwn
namespace Go.Proofs.Ytnjdfalmincpgaa.RingText
open Go Go.RowKit Go.Shelf Go.Sort Go.Proofs.YtnjdfalmincpgaaW.PrintWords
attribute [local go_sem] Oper.semAt_some
theorem info8 : (Try.prog.info? 5).map (fun i => (i.zero, i.size, i.bytes)) = some (some (.int .u8 0), 1, 1) := by kernel_rfl
theorem text_ok (A0 : Option Addr) (c0 : Nat) (l0 : List Int) (w : World) (hr0 : (Kd.int .u8).C w A0 l0.length l0) (hc0 : l0.length ≤ c0) (hl : l0.length < 140737488355328) :
    Calls Try.prog 58 #[.slice A0 l0.length c0] w fun e w' => ∃ v0, e = .returned v0 ∧ (Kd.int .u8).R 5 w' w.heap.size (fun _ => True) v0 l0 ∧ Below w.heap.size w w' := by
  have HR0 := Aside0.mk hr0
  have HC0 := Aside0.mk hc0
  clear hr0 hc0
  have HB := Aside0.mk (Below.refl w.heap.size w)
  have LM := Aside0.mk hl
  obtain ⟨i0, hi, hz0, hz1, hz2⟩ := info_parts info8
  have hmk := fun W => run_make (P := Try.prog) W 40 5 i0 (.int .u8 0) Try.underlying40 hi hz0 .i64 .i64 (l0.length : Int) (l0.length : Int) (by omega) (by omega) (by rw [hz2]; omega) (by omega)
  simp only [Int.toNat_natCast, hz1, Nat.mul_one] at hmk
  go_enter Try.func58, Try.ntmps58
  have hsrc : ∀ W : World, Below w.heap.size w W → 0 < (l0.map (fun x => Value.int .u8 x)).length → ∃ ad, A0 = some ad ∧ ∀ j v, (l0.map (fun x => Value.int .u8 x))[j]? = some v → W.cell? (ad.add j) = some v := by
    intro W hW hp
    have hC := Kd.C_below HR0.out hW
    cases A0 with
    | none => rw [C_none hC rfl] at hp; simp at hp
    | some ad => exact ⟨ad, rfl, int_cells hC⟩
  have HS := Aside0.mk hsrc
  have hone : ∀ v ∈ l0.map (fun x => Value.int .u8 x), v.oneCell' = true := by
    intro v hv
    obtain ⟨x, _, rfl⟩ := List.mem_map.1 hv
    rfl
  have H1 := Aside0.mk hone
  clear hone
  clear hsrc
  go_wp2_with (with_reducible refine wpList_copy_splice rfl (.tmp 7) (.tmp 8) 40 40 rfl 5 Try.underlying40 (by rw [hi]; simp [hz1]) (some ⟨w.heap.size, 0, none⟩) A0 l0.length l0.length l0.length c0 rfl rfl w.heap.size 0 (List.replicate l0.length (.int .u8 0)) 5 ?cg (l0.map (fun x => Value.int .u8 x)) ?cn ?cp ?cf ?c1 w.heap.size w ?cb (Nat.le_refl _) ?_; (case cg => rw [show madeCells #[.int .u8 0] l0.length = (List.replicate l0.length (.int .u8 0)).toArray from by rw [← toList_madeCells_one]]; simpa using heap_alloc_new w _); (case cn => simp); (case cp => exact fun hp => ⟨rfl, HS.out _ (below_alloc (Below.refl _ _) _) hp⟩); (case cf => simp); (case c1 => exact H1.out); (case cb => exact below_alloc (Below.refl _ _) _); intro w4 hg4 hb4)
  go_ret
  refine ⟨_, rfl, row_whole (D := (splice (List.replicate l0.length (Value.int .u8 0)) 0 (l0.map (fun x => Value.int .u8 x))).toArray) hg4 ?_ (Nat.le_refl _) LM.out, hb4⟩
  simp [splice]
end Go.Proofs.Ytnjdfalmincpgaa.RingText
namespace Go.Proofs.Ytnjdfalmincpgaa.VM
open Go Go.RowKit
noncomputable section
set_option linter.unusedVariables false
def cfPlain : Cfg := ⟨fun _ => false, fun _ => false, fun _ => none⟩
/-- ring.List, of values. -/
def ringListG (base : Nat) (vs : List V) : Option (V × List Blk) :=
  match vs with
  | [.agg [its, .int .i64 a, .int .i64 b]] => match itemsI its with
    | some l => if 0 ≤ a ∧ a < l.length ∧ 0 ≤ b ∧ b ≤ l.length then
        match vcall Try.prog cfPlain 100000 61 0 vs with
        | some (.int .i64 e, []) => if e = 0 then some (.tup [rowsI ((List.range b.toNat).map fun j => l.getD ((a.toNat + j) % l.length) []), .int .i64 0], []) else none
        | _ => none
      else none
    | none => none
  | _ => none
theorem ringList_iso {base : Nat} {vs : List V} {rv : V} {blks : List Blk} (h : ringListG base vs = some (rv, blks)) : IsoSound Try.prog 42 base vs rv blks := by
  intro w O cargs hargs
  unfold ringListG at h
  split at h
  · rename_i its a b
    split at h
    · rename_i l hl
      split at h
      · rename_i hab
        obtain ⟨ha0, ha1, hb0, hb1⟩ := hab
        split at h
        · rename_i e hv
          split at h
          · rename_i he
            subst he
            cases h
            have hargs0 := hargs
            cases hargs with
            | cons r s =>
              cases s
              cases r with
              | agg t =>
                cases t with
                | cons t1 t2 =>
                  cases t2 with
                  | cons t2 t3 =>
                    cases t3 with
                    | cons t3 t4 =>
                      cases t4
                      cases t2
                      cases t3
                      obtain ⟨g1, g2, g3, ad, C, rfl, g4, g5⟩ := items_C hl t1
                      obtain ⟨a', rfl⟩ := Int.eq_ofNat_of_zero_le ha0
                      obtain ⟨b', rfl⟩ := Int.eq_ofNat_of_zero_le hb0
                      refine (RingWalk.list_ok RingText.text_ok ad C l a' b' w g5 g3 g1 g2 (by omega) (by omega) fun W hW => ?_).mono ?_
                      · have := vcall_ok (P := Try.prog) (by kernel_rfl) extOK_none 100000 61 0 _ _ _ hv W (fun _ => True) _ (RelL.widen hW hargs0)
                        refine this.mono fun e w' hp => ?_
                        obtain ⟨cv, ρ, he, hb, _, hr, _⟩ := hp
                        cases hr
                        exact ⟨he, hb⟩
                      · rintro e w' ⟨v0, rfl, hS, hb⟩
                        refine ⟨_, fun _ => none, rfl, hb, ⟨(fun b blk hb => by cases hb), (fun b b' blk blk' e e' c o o' h1 => by cases h1), hb.size⟩, .tup (.cons (S_rel (Nat.le_refl _) hS) (.cons (.int _ _) .nil)), fun b hb => absurd rfl hb⟩
          · cases h
        · cases h
      · cases h
    · cases h
  · cases h
end
end Go.Proofs.Ytnjdfalmincpgaa.VM
