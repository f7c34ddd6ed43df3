/- The machine of values: stores. No conditions. -/
import Derived.Test.YtifgifhbefhkmaaVMe
namespace Go.Proofs.Ytifgifhbefhkmaa.VM
set_option linter.unusedSimpArgs false
set_option linter.unusedVariables false
open Go Go.RowKit
noncomputable section

def setC : List Value → Nat → List Value → List Value
  | l, _, [] => l
  | l, i, v :: r => setC (l.set i v) (i + 1) r
theorem setC_length : ∀ (vs : List Value) (l : List Value) (i : Nat), (setC l i vs).length = l.length
  | [], _, _ => rfl
  | v :: r, l, i => by rw [setC, setC_length]; simp
theorem setCells_length : ∀ (vs : List V) (l : List V) (i : Nat), (setCells l i vs).length = l.length
  | [], _, _ => rfl
  | v :: r, l, i => by rw [setCells, setCells_length]; simp
theorem setCells_rel {E : Env} : ∀ {vs : List V} {cvs : List Value} {l : List V} {cl : List Value} (i : Nat), RelL E vs cvs → RelL E l cl → RelL E (setCells l i vs) (setC cl i cvs)
  | _, _, _, _, _, .nil, h => h
  | _, _, _, _, i, .cons r s, h => setCells_rel (i + 1) s (h.set i r)
theorem setC_window : ∀ (vs : List Value) (l : List Value) (o off m : Nat), ((setC l (o + off) vs).drop o).take m = setC ((l.drop o).take m) off vs
  | [], _, _, _, _ => rfl
  | v :: r, l, o, off, m => by
    rw [setC, setC, Nat.add_assoc, setC_window r]
    congr 1
    rw [List.drop_set, if_neg (by omega), List.take_set, Nat.add_sub_cancel_left]

theorem store_run {P : Program} {c o : Nat} {el : TypeId} {lo hi : Nat} : ∀ (vs : List Value) (i : Nat) (w : World) (arr : Array Value), w.heap[c]? = some (.cells arr el (lo, hi)) → (lo < hi → arr.size ≤ lo) →
    o + i + vs.length ≤ arr.size → (∀ v ∈ vs, v.oneCell' = true) →
    ∃ w', (storeCells ⟨c, o, none⟩ vs i).run P w = .ok () w' ∧ w'.heap[c]? = some (.cells (setC arr.toList (o + i) vs).toArray el (lo, hi)) ∧
      (∀ d, d ≠ c → w'.heap[d]? = w.heap[d]?) ∧ w'.heap.size = w.heap.size ∧ w'.os = w.os ∧ w'.tape = w.tape ∧ w'.output = w.output
  | [], i, w, arr, h, _, _, _ => ⟨w, by simp [storeCells], by simpa [setC] using h, fun _ _ => rfl, rfl, rfl, rfl, rfl⟩
  | v :: r, i, w, arr, h, hf, hs, h1 => by
    have hlen : o + i < arr.size := by simp at hs; omega
    have hc : w.cell? ⟨c, o + i, none⟩ = some arr[o + i] := by rw [cell_at h, Array.getElem?_eq_getElem hlen]
    have hfz : w.frozen? ⟨c, o + i, none⟩ = false := by
      unfold World.frozen?
      simp only [h]
      by_cases q : lo < hi
      · have := hf q
        simp; omega
      · simp; omega
    have hh : (w.setCell ⟨c, o + i, none⟩ v).heap[c]? = some (.cells (arr.setIfInBounds (o + i) v) el (lo, hi)) := by
      simp [World.setCell, Array.getElem?_modify, h]
    obtain ⟨w', g1, g2, g3, g4, g5, g6, g7⟩ := store_run (P := P) (c := c) (o := o) r (i + 1) (w.setCell ⟨c, o + i, none⟩ v) (arr.setIfInBounds (o + i) v) hh (by simpa using hf) (by simp at hs ⊢; omega) (fun x hx => h1 x (by simp [hx]))
    refine ⟨w', ?_, ?_, fun d hd => ?_, ?_, g5, g6, g7⟩
    · rw [storeCells, Sem.run_bind, Addr.add_lit, run_store P w _ v _ (h1 v (by simp)), hc]
      simp only [hfz, Bool.false_eq_true, if_false, Result.andThen_ok]
      exact g1
    · rw [g2, setC]
      simp [Nat.add_assoc]
    · rw [g3 d hd]
      exact Below.heap_setCell w _ v d hd
    · rw [g4]; simp [World.setCell]

theorem relL_one {E : Env} : ∀ {vs : List V} {cs : List Value}, RelL E vs cs → vs.all V.one = true → ∀ c ∈ cs, c.oneCell' = true
  | _, _, .nil, _, c, hc => by cases hc
  | v :: vs, _, .cons r s, h, c, hc => by
    simp only [List.all_cons, Bool.and_eq_true] at h
    cases hc with
    | head => exact (rel_one r h.1).1
    | tail _ hc => exact relL_one s h.2 c hc
theorem cells_rel {E : Env} {v : V} {c : Value} (r : Rel E v c) (h : v.cells.all V.one = true) : RelL E v.cells c.cells.toList := by
  cases hv : v with
  | agg cs =>
    subst hv
    cases r with
    | agg s => simpa [V.cells, Value.cells] using s
  | _ =>
    subst hv
    simp only [V.cells, List.all_cons, List.all_nil, Bool.and_true] at h
    have h2 := (rel_one r h).2
    rw [h2]
    exact .cons r .nil

theorem updF_self {α : Type} {ρ : Nat → Option α} {b : Nat} {e : α} (h : ρ b = some e) : updF ρ b e = ρ := by
  funext i
  unfold updF
  by_cases q : i = b
  · rw [if_pos q, q, h]
  · rw [if_neg q]

/-- Cells of a block of the call's own are written. -/
theorem write_env {P : Program} {E : Env} (hR : HRel E) {b : Nat} {blk : Blk} {e : RE} {c o off : Nat} (hb : E.H b = some blk) (hfz : blk.fz = false) (he : E.ρ b = some e) (hp : e.pos = some (c, o))
    {vs : List V} {cvs : List Value} (hv : RelL E vs cvs) (h1 : vs.all V.one = true) (hfit : off + vs.length ≤ blk.cells.length) :
    ∃ w', (storeCells ⟨c, o + off, none⟩ cvs).run P E.w = .ok () w' ∧
      Ext E ⟨w', updF E.H b { blk with cells := setCells blk.cells off vs }, E.ρ, E.B, E.O⟩ ∧ HRel ⟨w', updF E.H b { blk with cells := setCells blk.cells off vs }, E.ρ, E.B, E.O⟩ ∧ Below E.B E.w w' := by
  obtain ⟨e0, he0, hl⟩ := hR.at_ b blk hb
  rw [he] at he0
  cases he0
  have hl' := hl
  obtain ⟨hver, hk, h3⟩ := hl
  rw [hp] at h3
  obtain ⟨h3, arr, el, lo, hi, h4, h5, h6, h7, h8⟩ := h3
  have hlen := hv.length
  obtain ⟨w', g1, g2, g3, g4, g5, g6, g7⟩ := store_run (P := P) (c := c) (o := o + off) cvs 0 E.w arr h4 (by omega) (by omega) (relL_one hv h1)
  have hx := ext_upd (w' := w') (b := b) (blk' := { blk with cells := setCells blk.cells off vs }) (e' := e) hR
    (fun d hd hne => g3 d (fun q => hne o (q ▸ hp))) (by omega) (fun c' o' hp' => .inr ⟨blk, e, o, hb, hfz, he, by rw [hp] at hp' ⊢; cases hp'; rfl⟩)
    (fun e1 he1 => by rw [he] at he1; cases he1; exact .inl rfl)
    (fun hx => by
      refine ⟨hver, hk, ?_⟩
      rw [hp]
      refine ⟨h3, _, el, lo, hi, g2, by simp [setC_length, h5], by simpa [setCells_length] using h6, h7, ?_⟩
      simp only [setCells_length, Nat.add_zero]
      rw [setC_window]
      exact setCells_rel off (hv.mono hx) (h8.mono hx))
  rw [updF_self he] at hx
  refine ⟨w', g1, hx.1, hx.2, g5, g6, g7, by omega, fun d hd => g3 d (by omega)⟩

theorem store_sound {P : Program} {E : Env} {a : Act} {o : Oper} {base : Nat} {t : List V} {L : Heap} (hR : HRel E) (hL : Sub L E) (ht : RelL E t a.tmps.toList)
    {ty : TypeId} {x y : Operand} (ho : o.op = .store ty x y) {p v : V} {eff : Eff} (hp : evalV t x = some p) (hy : evalV t y = some v) (hv : storeV P L ty p v = some eff) : OpSound P E a o base eff := by
  have r := evalV_rel ht hp
  have rv := evalV_rel ht hy
  unfold storeV at hv
  split at hv
  · rename_i g n b off ver hz
    obtain ⟨h1, h2⟩ := tySz_run hz
    split at hv
    · rename_i blk hb
      split at hv
      · rename_i hcond
        obtain ⟨hver, hfz, hn, hfit, hone⟩ := hcond
        cases hv
        have hH := hL b blk hb
        obtain ⟨e, he, hl⟩ := hR.at_ b blk hH
        generalize hcx : a.eval x = cx at r
        cases r with
        | ptrB he' hle hpos =>
          rw [he] at he'
          cases he'
          obtain ⟨c, o', hp', rfl⟩ := hpos (hl.1.trans hver)
          have rc := cells_rel rv hone
          obtain ⟨w', g1, g2, g3, g4⟩ := write_env (P := P) (off := off) hR hH hfz he hp' rc hone (by omega)
          refine opSound_of_run (cv := undef) (E' := ⟨w', _, E.ρ, E.B, E.O⟩) (.inr ⟨?_, rfl⟩) rfl rfl rfl g2 g3 undef_rel g4 (fun _ h _ => h)
          have hsz : (a.eval y).cells.size = n := by
            have := rc.length
            simp at this
            omega
          rw [execOp, ho]
          simp [hcx, Instr.storeAt, Instr.sureAddr, storeVar, h2, hsz, g1]
      · cases hv
    · cases hv
  · cases hv
end
end Go.Proofs.Ytifgifhbefhkmaa.VM
