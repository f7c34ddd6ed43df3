/- The machine of values: pointers, loads and stores. No conditions. -/
import Derived.Test.YtifgifhbefhkmaaVMd
namespace Go.Proofs.Ytifgifhbefhkmaa.VM
set_option linter.unusedSimpArgs false
set_option linter.unusedVariables false
open Go Go.RowKit
noncomputable section

def Sub (L : Heap) (E : Env) : Prop := ∀ b blk, hget L b = some blk → E.H b = some blk

theorem tySz_run {P : Program} {t : TypeId} {g : Bool} {n : Nat} (h : tySz P t = some (g, n)) : (∀ w, (isAgg t).run P w = .ok g w) ∧ (∀ w, (sizeOf t).run P w = .ok n w) := by
  unfold tySz at h
  cases h1 : P.underlying t with
  | none => simp [h1] at h
  | some d =>
    cases h2 : P.info? t with
    | none => simp [h1, h2] at h
    | some i =>
      simp only [h1, h2, Option.some.injEq, Prod.mk.injEq] at h
      obtain ⟨rfl, rfl⟩ := h
      constructor
      · intro w
        cases d <;> simp [isAgg, run_underlying h1]
      · intro w
        simp [sizeOf, typeInfo, h2]
theorem cell_at {w : World} {c : Nat} {arr : Array Value} {el : TypeId} {fr : Nat × Nat} (h : w.heap[c]? = some (.cells arr el fr)) (i : Nat) : w.cell? ⟨c, i, none⟩ = arr[i]? := by
  unfold World.cell?
  simp [h]
theorem run_loadCells_at {P : Program} {w : World} {c o : Nat} {cvs : List Value} (h : ∀ (i : Nat) (v : Value), cvs[i]? = some v → w.cell? ⟨c, o + i, none⟩ = some v) (n : Nat) (hn : n ≤ cvs.length) :
    (loadCells ⟨c, o, none⟩ n).run P w = .ok (cvs.take n).toArray w := by
  have := run_loadCells_list (P := P) w ⟨c, o, none⟩ (cvs.take n) (fun j v hj => by
    rw [List.getElem?_take] at hj
    split at hj
    · rw [Addr.add_lit]; exact h j v hj
    · cases hj)
  rwa [List.length_take, Nat.min_eq_left hn] at this

theorem block_cells {E : Env} {blk : Blk} {e : RE} {c o : Nat} (hl : Lies E blk e) (hp : e.pos = some (c, o)) :
    ∃ cvs, RelL E blk.cells cvs ∧ ∀ (i : Nat) (v : Value), cvs[i]? = some v → E.w.cell? ⟨c, o + i, none⟩ = some v := by
  obtain ⟨h1, h2, h3⟩ := hl
  rw [hp] at h3
  obtain ⟨h3, arr, el, lo, hi, h4, h5, h6, h7, h8⟩ := h3
  refine ⟨_, h8, fun i v hv => ?_⟩
  rw [cell_at h4]
  rw [List.getElem?_take] at hv
  split at hv
  · rw [List.getElem?_drop] at hv
    simpa using hv
  · cases hv

/-- A pointer whose cells can be read. -/
theorem cellsAt_rel {E : Env} {L : Heap} (hR : HRel E) (hL : Sub L E) {p : V} {c : Value} {cs : List V} (h : cellsAt L p = some cs) (r : Rel E p c) :
    ∃ b o cvs, c = .pointer (some ⟨b, o, none⟩) ∧ RelL E cs cvs ∧ ∀ (i : Nat) (v : Value), cvs[i]? = some v → E.w.cell? ⟨b, o + i, none⟩ = some v := by
  cases r <;> simp only [cellsAt] at h <;> try cases h
  · rename_i hs hf hc hr
    exact ⟨_, _, _, rfl, hr, hc⟩
  · rename_i b off ver A e he hv hp
    split at h
    · rename_i blk hb
      split at h
      · rename_i hcond
        cases h
        obtain ⟨e', he', hl⟩ := hR.at_ b blk (hL b blk hb)
        rw [he] at he'
        cases he'
        obtain ⟨c', o', hpos, rfl⟩ := hp (hl.1.trans hcond.1)
        obtain ⟨cvs, h1, h2⟩ := block_cells hl hpos
        refine ⟨c', o' + off, cvs.drop off, rfl, h1.drop off, fun i v hv => ?_⟩
        rw [List.getElem?_drop] at hv
        have := h2 _ v hv
        rwa [← Nat.add_assoc] at this
      · cases h
    · cases h

theorem load_sound {P : Program} {E : Env} {a : Act} {o : Oper} {base : Nat} {t : List V} {L : Heap} (hR : HRel E) (hL : Sub L E) (ht : RelL E t a.tmps.toList)
    {ty : TypeId} {x : Operand} (ho : o.op = .load ty x) {p v : V} (hp : evalV t x = some p) (hv : loadV P L ty p = some v) : OpSound P E a o base (Eff.pure v) := by
  have r := evalV_rel ht hp
  unfold loadV at hv
  split at hv
  · rename_i n cs hz hc
    obtain ⟨h1, h2⟩ := tySz_run hz
    obtain ⟨b, o', cvs, e1, e2, e3⟩ := cellsAt_rel hR hL hc r
    split at hv
    · rename_i hn
      cases hv
      have hl := run_loadCells_at (P := P) e3 n (by rw [← e2.length]; exact hn)
      refine opSound_pure hR (cv := .agg (cvs.take n).toArray) ?_ (.agg (e2.take n))
      rw [execOp, ho]
      simp [e1, Instr.loadAt, Instr.sureAddr, loadVar, h1, h2, hl]
    · cases hv
  · rename_i n cs hz hc
    obtain ⟨h1, h2⟩ := tySz_run hz
    obtain ⟨b, o', cvs, e1, e2, e3⟩ := cellsAt_rel hR hL hc r
    obtain ⟨y, g1, g2⟩ := e2.get 0 v hv
    have g3 := e3 0 y g1
    refine opSound_pure hR (cv := y) ?_ g2
    rw [execOp, ho]
    simp only [Nat.add_zero] at g3
    simp [e1, Instr.loadAt, Instr.sureAddr, loadVar, h1, g3]
  · cases hv

theorem rel_one {E : Env} {v : V} {c : Value} (r : Rel E v c) (h : v.one = true) : c.oneCell' = true ∧ c.cells = #[c] := by
  cases r <;> simp_all [V.one, Value.cells, Value.oneCell']
end
end Go.Proofs.Ytifgifhbefhkmaa.VM
