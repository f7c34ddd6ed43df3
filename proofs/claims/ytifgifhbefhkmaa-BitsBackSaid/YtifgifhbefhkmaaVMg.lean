/- The machine of values: addresses, new blocks. No conditions. -/
import Derived.Test.YtifgifhbefhkmaaVMf
namespace Go.Proofs.Ytifgifhbefhkmaa.VM
set_option linter.unusedSimpArgs false
set_option linter.unusedVariables false
open Go Go.RowKit
noncomputable section

theorem ptrAdd_rel {E : Env} {L : Heap} (hR : HRel E) (hL : Sub L E) {p v : V} {c : Value} {k : Nat} (h : ptrAdd L p k = some v) (r : Rel E p c) :
    ∃ ad, c = .pointer (some ad) ∧ Rel E v (.pointer (some (ad.add k))) := by
  cases r <;> simp only [ptrAdd] at h <;> try cases h
  · rename_i hs hf hr hc
    refine ⟨_, rfl, ?_⟩
    rw [Addr.add_lit]
    refine .ptrI hs hf (hr.drop k) fun i v hv => ?_
    rw [List.getElem?_drop] at hv
    have := hc _ v hv
    rwa [← Nat.add_assoc] at this
  · rename_i b off ver A e he hv hp
    split at h
    · rename_i blk hb
      split at h
      · rename_i hver
        cases h
        obtain ⟨e', he', hl⟩ := hR.at_ b blk (hL b blk hb)
        rw [he] at he'
        cases he'
        obtain ⟨c', o', hpos, rfl⟩ := hp (hl.1.trans hver)
        refine ⟨_, rfl, ?_⟩
        rw [Addr.add_lit]
        exact .ptrB he hv fun _ => ⟨c', o', hpos, by rw [Nat.add_assoc]⟩
      · cases h
    · cases h

theorem fieldOff_run {P : Program} {s : TypeId} {f off : Nat} {ft : TypeId} (h : fieldOff P s f = some (off, ft)) :
    ∃ fs fl n, P.underlying s = some (.struct fs) ∧ fs[f]? = some fl ∧ fl.offset = off ∧ fl.type = ft ∧ n ≠ 0 ∧ (∀ w, (sizeOf ft).run P w = .ok n w) := by
  unfold fieldOff at h
  split at h
  · rename_i fs hfs
    split at h
    · rename_i fl hfl
      split at h
      · rename_i g n hz
        split at h
        · cases h
        · rename_i hn
          simp only [Option.some.injEq, Prod.mk.injEq] at h
          obtain ⟨rfl, rfl⟩ := h
          exact ⟨fs, fl, n, hfs, hfl, rfl, rfl, hn, (tySz_run hz).2⟩
      · cases h
    · cases h
  · cases h

section
variable {P : Program} {E : Env} {a : Act} {o : Oper} {base : Nat} {t : List V} {L : Heap}

theorem fieldAddr_sound (hR : HRel E) (hL : Sub L E) (ht : RelL E t a.tmps.toList) {s : TypeId} {x : Operand} {f : Nat} (ho : o.op = .fieldAddr s x f) {p v : V} {off : Nat} {ft : TypeId}
    (hp : evalV t x = some p) (hf : fieldOff P s f = some (off, ft)) (hv : ptrAdd L p off = some v) : OpSound P E a o base (Eff.pure v) := by
  obtain ⟨ad, e1, e2⟩ := ptrAdd_rel hR hL hv (evalV_rel ht hp)
  obtain ⟨fs, fl, n, h1, h2, rfl, rfl, h3, h4⟩ := fieldOff_run hf
  refine opSound_pure hR (cv := .pointer (some (ad.add fl.offset))) ?_ e2
  rw [execOp, ho]
  simp [Instr.fieldAt, run_underlying h1, h2, e1, Instr.sureAddr, fieldPlace, h4, h3]

theorem idxAddr_sound (hR : HRel E) (hL : Sub L E) (ht : RelL E t a.tmps.toList) {s : TypeId} {x ix : Operand} (ho : o.op = .indexAddr s x ix) {p v : V} {k : IntKind} {i : Int}
    (hp : evalV t x = some p) (hi : evalV t ix = some (.int k i)) (hv : idxAddr P L s p i = some v) : OpSound P E a o base (Eff.pure v) := by
  have r := evalV_rel ht hp
  have ri := evalV_rel ht hi
  generalize hci : a.eval ix = ci at ri
  cases ri
  unfold idxAddr at hv
  split at hv
  · rename_i e hu
    split at hv
    · rename_i g kk fr cs n tt hz
      obtain ⟨_, h2⟩ := tySz_run hz
      split at hv
      · rename_i hb
        cases hv
        generalize hcx : a.eval x = cx at r
        cases r with
        | slI0 _ => omega
        | slI hs hf hn htt hr hc =>
          rename_i cvs cap c o'
          refine opSound_pure hR (cv := .pointer (some ⟨c, o' + i.toNat * kk, none⟩)) ?_ ?_
          · rw [execOp, ho]
            simp [Instr.indexAt, run_underlying hu, asIntOf, hcx, hci, hb, h2, Addr.add_lit]
          · refine .ptrI hs hf (hr.drop _) fun j v hv => ?_
            rw [List.getElem?_drop] at hv
            have := hc _ v hv
            rwa [← Nat.add_assoc] at this
      · cases hv
    · rename_i g kk b off ver n hz
      obtain ⟨_, h2⟩ := tySz_run hz
      split at hv
      · rename_i blk hb
        split at hv
        · rename_i hcond
          obtain ⟨hver, hi0, hi1⟩ := hcond
          cases hv
          generalize hcx : a.eval x = cx at r
          cases r with
          | slB he hle hpos =>
            rename_i cap A e'
            obtain ⟨e2, he2, hl⟩ := hR.at_ b blk (hL b blk hb)
            rw [he] at he2
            cases he2
            obtain ⟨_, hq⟩ := hpos (hl.1.trans hver)
            rcases hq with ⟨c, o', hp', rfl, _⟩ | ⟨_, h0, _⟩
            · refine opSound_pure hR (cv := .pointer (some ⟨c, o' + (off + i.toNat * kk), none⟩)) ?_ (.ptrB he hle fun _ => ⟨c, o', hp', rfl⟩)
              rw [execOp, ho]
              simp [Instr.indexAt, run_underlying hu, asIntOf, hcx, hci, hi0, hi1, h2, Addr.add_lit, Nat.add_assoc]
            · omega
        · cases hv
      · cases hv
    · cases hv
  · rename_i n e hu
    split at hv
    · rename_i g kk hz
      obtain ⟨_, h2⟩ := tySz_run hz
      split at hv
      · rename_i hb
        obtain ⟨ad, e1, e2⟩ := ptrAdd_rel hR hL hv r
        refine opSound_pure hR (cv := .pointer (some (ad.add (i.toNat * kk)))) ?_ e2
        rw [execOp, ho]
        simp [Instr.indexAt, run_underlying hu, asIntOf, e1, Instr.sureAddr, hci, hb, h2]
      · cases hv
    · cases hv
  · cases hv

/-- A new block of the call's own. -/
theorem new_env (hR : HRel E) {w' : World} {arr : Array Value} {el : TypeId} {lo hi : Nat} {cells : List V} {k : Nat} (hw : w'.heap = E.w.heap.push (.cells arr el (lo, hi)))
    (h5 : w'.os = E.w.os) (h6 : w'.tape = E.w.tape) (h7 : w'.output = E.w.output) (hfresh : E.ρ base = none) (hf : lo = hi ∨ arr.size ≤ lo) (hlen : cells.length ≤ arr.size)
    (hr : RelL E cells (arr.toList.take cells.length)) :
    Ext E ⟨w', updF E.H base ⟨cells, k, 0, false⟩, updF E.ρ base ⟨some (E.w.heap.size, 0), k, 0, arr.size⟩, E.B, E.O⟩ ∧
    HRel ⟨w', updF E.H base ⟨cells, k, 0, false⟩, updF E.ρ base ⟨some (E.w.heap.size, 0), k, 0, arr.size⟩, E.B, E.O⟩ ∧ Below E.B E.w w' := by
  have hold : ∀ c, c < E.w.heap.size → w'.heap[c]? = E.w.heap[c]? := by
    intro c hc
    rw [hw, Array.getElem?_push, if_neg (by omega)]
  have hnew : w'.heap[E.w.heap.size]? = some (.cells arr el (lo, hi)) := by rw [hw]; simp
  have hx := ext_upd (w' := w') (b := base) (blk' := ⟨cells, k, 0, false⟩) (e' := ⟨some (E.w.heap.size, 0), k, 0, arr.size⟩) hR (fun c hc _ => hold c hc) (by rw [hw]; simp)
    (fun c o hp => by simp only [Option.some.injEq, Prod.mk.injEq] at hp; exact .inl (by omega)) (fun e he => by rw [hfresh] at he; cases he)
    (fun hx => ⟨rfl, rfl, hR.le, arr, el, lo, hi, hnew, rfl, by simpa using hlen, hf, by simpa using hr.mono hx⟩)
  exact ⟨hx.1, hx.2, h5, h6, h7, by rw [hw]; simp, fun c hc => hold c (Nat.lt_of_lt_of_le hc hR.le)⟩
theorem fresh_upd {e : RE} {m : Nat} (hm : 1 ≤ m) : ∀ b, E.ρ b = none → ¬ (base ≤ b ∧ b < base + m) → updF E.ρ base e b = none := by
  intro b h hb
  unfold updF
  rw [if_neg (by omega)]
  exact h

theorem opSound_new (hR : HRel E) {w' : World} {arr : Array Value} {el : TypeId} {lo hi : Nat} {cells : List V} {k : Nat} {v : V} {cv : Value}
    (hrun : (execOp a.eval o).run P E.w = .ok (.value cv) w') (hw : w'.heap = E.w.heap.push (.cells arr el (lo, hi)))
    (h5 : w'.os = E.w.os) (h6 : w'.tape = E.w.tape) (h7 : w'.output = E.w.output) (hfresh : E.ρ base = none) (hf : lo = hi ∨ arr.size ≤ lo) (hlen : cells.length ≤ arr.size)
    (hr : RelL E cells (arr.toList.take cells.length))
    (hv : Rel ⟨w', updF E.H base ⟨cells, k, 0, false⟩, updF E.ρ base ⟨some (E.w.heap.size, 0), k, 0, arr.size⟩, E.B, E.O⟩ v cv) : OpSound P E a o base ⟨v, [], [⟨cells, k, 0, false⟩]⟩ := by
  obtain ⟨g1, g2, g3⟩ := new_env (base := base) (k := k) hR hw h5 h6 h7 hfresh hf hlen hr
  exact opSound_of_run (E' := ⟨w', updF E.H base ⟨cells, k, 0, false⟩, updF E.ρ base ⟨some (E.w.heap.size, 0), k, 0, arr.size⟩, E.B, E.O⟩) (.inl hrun) rfl rfl rfl g1 g2 hv g3 (fresh_upd (Nat.le_refl 1))
theorem zeroV_run {ty : TypeId} {z : List V} (h : zeroV P ty = some z) : ∃ zv n, (∀ w, (zeroValue ty).run P w = .ok zv w) ∧ (∀ E, RelL E z zv.cells.toList) ∧ z.length = n ∧ (∀ w, (sizeOf ty).run P w = .ok n w) := by
  unfold zeroV at h
  split at h
  · rename_i i hi
    split at h
    · rename_i zv hz
      split at h
      · rename_i v hv
        split at h
        · rename_i hl
          cases h
          refine ⟨zv, i.size, fun w => by simp [zeroValue, typeInfo, hi, hz], fun E => ?_, hl, fun w => by simp [sizeOf, typeInfo, hi]⟩
          have r := ofAg_rel (E := E) hv
          cases v with
          | agg cs => cases r with | agg s => simpa [V.cells, Value.cells] using s
          | _ =>
            unfold ofAg at hv
            split at hv
            · rename_i cs
              cases h1 : mapO ofSc cs.toList <;> simp [h1] at hv
            · rename_i hne
              have h2 : zv.cells = #[zv] := by cases zv <;> first | rfl | exact absurd rfl (hne _)
              rw [h2]
              exact .cons r .nil
        · cases h
      · cases h
    · cases h
  · cases h

theorem alloc_sound (hR : HRel E) {ty : TypeId} (ho : o.op = .alloc ty) {z : List V} (hz : zeroV P ty = some z) (hfresh : E.ρ base = none) :
    OpSound P E a o base ⟨.ptrB base 0 0, [], [⟨z, 0, 0, false⟩]⟩ := by
  obtain ⟨zv, n, h1, h2, h3, h4⟩ := zeroV_run hz
  have hl := (h2 E).length
  refine opSound_new (cells := z) (k := 0) (arr := zv.cells) (el := ty) (lo := 0) (hi := 0) (w' := { E.w with heap := E.w.heap.push (.cells zv.cells ty (0, 0)) }) (cv := .pointer (some ⟨E.w.heap.size, 0, none⟩)) hR ?_ rfl rfl rfl rfl hfresh (by omega) (by simp at hl; omega) ?_
    (.ptrB (e := ⟨some (E.w.heap.size, 0), 0, 0, zv.cells.size⟩) (by simp [updF]) (Nat.le_refl _) (fun _ => ⟨_, _, rfl, rfl⟩))
  · rw [execOp, ho]
    simp [Instr.alloc, h1, newVar, newRow]
  · rw [List.take_of_length_le (by omega)]
    exact h2 E

theorem box_sound (hR : HRel E) (ht : RelL E t a.tmps.toList) {ty : TypeId} {x : Operand} (ho : o.op = .box ty x) {v : V} (hv : evalV t x = some v) (h1 : v.cells.all V.one = true) (hfresh : E.ρ base = none) :
    OpSound P E a o base ⟨.ptrB base 0 0, [], [⟨v.cells, 0, 0, false⟩]⟩ := by
  have rc := cells_rel (evalV_rel ht hv) h1
  have hl := rc.length
  refine opSound_new (cells := v.cells) (k := 0) (arr := (a.eval x).cells) (el := ty) (lo := 0) (hi := 0) (w' := { E.w with heap := E.w.heap.push (.cells (a.eval x).cells ty (0, 0)) }) (cv := .pointer (some ⟨E.w.heap.size, 0, none⟩)) hR ?_ rfl rfl rfl rfl hfresh (by omega) (by simp at hl; omega) ?_
    (.ptrB (e := ⟨some (E.w.heap.size, 0), 0, 0, (a.eval x).cells.size⟩) (by simp [updF]) (Nat.le_refl _) (fun _ => ⟨_, _, rfl, rfl⟩))
  · rw [execOp, ho]
    simp [Instr.box, newVar, newRow]
  · rw [List.take_of_length_le (by omega)]
    exact rc

end
end
end Go.Proofs.Ytifgifhbefhkmaa.VM
