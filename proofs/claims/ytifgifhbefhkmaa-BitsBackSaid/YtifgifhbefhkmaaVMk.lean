/- The machine of values: len, copy, clear, slicing. No conditions. -/
import Derived.Test.YtifgifhbefhkmaaVMj
namespace Go.Proofs.Ytifgifhbefhkmaa.VM
set_option linter.unusedSimpArgs false
set_option linter.unusedVariables false
open Go Go.RowKit
noncomputable section
section
variable {P : Program} {E : Env} {a : Act} {o : Oper} {base : Nat} {t : List V} {L : Heap}

/-- A slice that may be looked at. -/
theorem slB_at (hR : HRel E) (hL : Sub L E) {b off ver n : Nat} {c : Value} {blk : Blk} (hb : hget L b = some blk) (hver : blk.ver = ver) (r : Rel E (.slB b off ver n) c) :
    ∃ e A cap, E.ρ b = some e ∧ Lies E blk e ∧ E.H b = some blk ∧ c = .slice A n cap ∧
      ((∃ c' o', e.pos = some (c', o') ∧ A = some ⟨c', o' + off, none⟩ ∧ n ≤ cap ∧ o' + off + cap * e.k ≤ e.asz) ∨ (e.pos = none ∧ n = 0 ∧ off = 0 ∧ cap = 0 ∧ blk.cells = [])) := by
  cases r with
  | slB he hle hpos =>
    rename_i cap A e
    obtain ⟨e1, he1, hl⟩ := hR.at_ b blk (hL b blk hb)
    rw [he] at he1
    cases he1
    obtain ⟨_, hq⟩ := hpos (hl.1.trans hver)
    refine ⟨e, A, cap, he, hl, hL b blk hb, rfl, ?_⟩
    rcases hq with ⟨c', o', h1, h2, h3, h4⟩ | ⟨h1, h2, h3, h4⟩
    · exact .inl ⟨c', o', h1, h2, h3, h4⟩
    · have := hl.2.2
      rw [h1] at this
      exact .inr ⟨h1, h2, h3, h4, this.1⟩

theorem lenV_rel (hR : HRel E) (hL : Sub L E) {v : V} {c : Value} {n : Nat} (h : lenV L v = some n) (r : Rel E v c) : (∃ A cap, c = .slice A n cap) ∨ ∃ s, c = .string s ∧ s.size = n := by
  cases v <;> simp only [lenV] at h <;> try cases h
  · cases r; exact .inr ⟨_, rfl, rfl⟩
  · cases r; exact .inl ⟨_, _, rfl⟩
  · cases r with
    | slI0 _ => exact .inl ⟨_, _, rfl⟩
    | slI _ _ _ _ _ _ => exact .inl ⟨_, _, rfl⟩
  · cases r; exact .inl ⟨_, _, rfl⟩

theorem len_sound (hR : HRel E) (hL : Sub L E) (ht : RelL E t a.tmps.toList) {ty e : TypeId} {x : Operand} (ho : o.op = .call { callee := .builtin .len, args := #[x], argTypes := #[ty] })
    (hu : P.underlying ty = some (.slice e)) {v : V} (hx : evalV t x = some v) {n : Nat} (hn : lenV L v = some n) (hns : ∀ s, v ≠ .str s) : OpSound P E a o base (Eff.pure (.int .i64 n)) := by
  have r := evalV_rel ht hx
  rcases lenV_rel hR hL hn r with ⟨A, cap, h⟩ | ⟨s, h, _⟩
  · refine opSound_pure hR (cv := .int .i64 n) ?_ (.int _ _)
    rw [execOp, ho]
    simp [resolve, invoke, builtin, h, Builtin.len_, run_underlying hu, goInt]
  · rw [h] at r
    generalize hs : (Value.string s) = c at r
    cases r <;> first | (cases hs; exact absurd rfl (hns _)) | cases hs

theorem copy_sound (hR : HRel E) (hL : Sub L E) (ht : RelL E t a.tmps.toList) {ty e : TypeId} {ats : Array TypeId} {x y : Operand}
    (ho : o.op = .call { callee := .builtin .copy, args := #[x, y], argTypes := ats }) (h0 : ats[0]? = some ty) (hu : P.underlying ty = some (.slice e))
    {d v : V} (hx : evalV t x = some d) (hy : evalV t y = some v) {eff : Eff} (h : copyV P L e d v = some eff) : OpSound P E a o base eff := by
  unfold copyV at h
  split at h
  · rename_i g k hz
    obtain ⟨_, hsz⟩ := tySz_run hz
    split at h
    · rename_i new m n hrow hlen
      have rd := evalV_rel ht hx
      obtain ⟨cvs, r1, r2, r3, r4⟩ := rowOf_rel (P := P) hR hL hrow (evalV_rel ht hy)
      have nothing : ∀ {A : Option Addr} {n' cap : Nat}, a.eval x = .slice A n' cap → min m n' = 0 → OpSound P E a o base (Eff.pure (.int .i64 0)) := by
        intro A n' cap hxx hj
        refine opSound_pure hR (cv := .int .i64 0) ?_ (.int _ _)
        have hf := r4 0 (Nat.zero_le _)
        simp only [Nat.zero_mul, List.take_zero] at hf
        have hj' : m.min n' = 0 := hj
        rw [execOp, ho]
        cases A with
        | none => simp [resolve, invoke, builtin, hxx, Builtin.copy_, h0, run_underlying hu, r3, hsz, hj', hf, goInt]
        | some ad => simp [resolve, invoke, builtin, hxx, Builtin.copy_, h0, run_underlying hu, r3, hsz, hj', hf, goInt, storeCells]
      split at h
      · cases h
        generalize hcx : a.eval x = cx at rd
        cases rd
        exact nothing hcx (by simp)
      · split at h
        · rename_i hj
          cases h
          rcases lenV_rel hR hL hlen rd with ⟨A, cap, hc⟩ | ⟨s, hc, _⟩
          · exact nothing hc hj
          · rw [hc] at rd
            generalize hs : (Value.string s) = c at rd
            cases rd <;> cases hs
        · cases h
      · rename_i b off ver n0
        split at h
        · rename_i blk hb
          split at h
          · rename_i hc1
            obtain ⟨hver, hfz, hfit, hone⟩ := hc1
            cases h
            obtain ⟨e0, A, cap, he, hl, hH, hcx, hq⟩ := slB_at hR hL hb hver rd
            have hn : n0 = n := by simpa [lenV, hb, hver] using hlen
            subst hn
            have hjm : min m n0 ≤ m := Nat.min_le_left _ _
            have hf := r4 (min m n0) hjm
            have hnl := r1.length
            have hmk : min m n0 * k ≤ m * k := Nat.mul_le_mul_right _ hjm
            have hone' : (new.take (min m n0 * k)).all V.one = true := by
              rw [List.all_eq_true] at hone ⊢
              exact fun v hv => hone v (List.mem_of_mem_take hv)
            have hm0 : m.min n0 = min m n0 := rfl
            rcases hq with ⟨c', o', hp, rfl, hncap, _⟩ | ⟨hp, rfl, rfl, rfl, hnil⟩
            · obtain ⟨w', g1, g2, g3, g4⟩ := write_env (P := P) (off := off) hR hH hfz he hp (r1.take (min m n0 * k)) hone' (by rw [List.length_take]; omega)
              refine opSound_of_run (cv := .int .i64 (min m n0 : Nat)) (E' := ⟨w', _, E.ρ, E.B, E.O⟩) (.inl ?_) rfl rfl rfl g2 g3 (.int _ _) g4 (fun _ h _ => h)
              rw [execOp, ho]
              simp [resolve, invoke, builtin, hcx, Builtin.copy_, h0, run_underlying hu, r3, hsz, hm0, hf, goInt, g1]
            · have hx0 : applyF E.H base ⟨.int .i64 (min m 0 : Nat), [(b, { blk with cells := setCells blk.cells 0 (new.take (min m 0 * k)) })], []⟩ = E.H := by
                show updF E.H b _ = E.H
                simp only [Nat.min_zero, Nat.zero_mul, List.take_zero, setCells]
                exact updF_self hH
              refine opSound_of_run (cv := .int .i64 0) (E' := E) (.inl ?_) rfl rfl hx0.symm (Ext.refl E) hR (by simpa using Rel.int _ _) (Below.refl _ _) (fun _ h _ => h)
              simp only [Nat.min_zero, Nat.zero_mul, List.take_zero] at hf
              rw [execOp, ho]
              cases A with
              | none => simp [resolve, invoke, builtin, hcx, Builtin.copy_, h0, run_underlying hu, r3, hsz, hf, goInt]
              | some ad => simp [resolve, invoke, builtin, hcx, Builtin.copy_, h0, run_underlying hu, r3, hsz, hf, goInt, storeCells]
          · cases h
        · cases h
      · cases h
    · cases h
  · cases h

theorem clear_sound (hR : HRel E) (hL : Sub L E) (ht : RelL E t a.tmps.toList) {ty e : TypeId} {ats : Array TypeId} {x : Operand}
    (ho : o.op = .call { callee := .builtin .clear, args := #[x], argTypes := ats }) (h0 : ats[0]? = some ty) (hu : P.underlying ty = some (.slice e))
    {d : V} (hx : evalV t x = some d) {eff : Eff} (h : clearV P L e d = some eff) : OpSound P E a o base eff := by
  unfold clearV at h
  split at h
  · rename_i g k z n hz hzv hlen
    obtain ⟨zv, k', g1, g2, g3, g4⟩ := zeroV_run hzv
    have hzl := (g2 E).length
    have rd := evalV_rel ht hx
    have nothing : ∀ {A : Option Addr} {cap : Nat}, a.eval x = .slice A 0 cap → OpSound P E a o base (Eff.pure (.tup [])) := by
      intro A cap hxx
      refine opSound_pure hR (cv := .tuple #[]) ?_ undef_rel
      rw [execOp, ho]
      cases A with
      | none => simp [resolve, invoke, builtin, hxx, Builtin.clear_, h0, run_underlying hu]
      | some ad => simp [resolve, invoke, builtin, hxx, Builtin.clear_, h0, run_underlying hu]
    split at h
    · cases h
      generalize hcx : a.eval x = cx at rd
      cases rd
      exact nothing hcx
    · split at h
      · rename_i hj
        cases h
        rcases lenV_rel hR hL hlen rd with ⟨A, cap, hc⟩ | ⟨s, hc, _⟩
        · rw [hj] at hc; exact nothing hc
        · rw [hc] at rd
          generalize hs : (Value.string s) = c at rd
          cases rd <;> cases hs
      · cases h
    · rename_i b off ver n0
      split at h
      · rename_i blk hb
        split at h
        · rename_i hc1
          obtain ⟨hver, hfz, hfit, hzk, hone⟩ := hc1
          cases h
          obtain ⟨e0, A, cap, he, hl, hH, hcx, hq⟩ := slB_at hR hL hb hver rd
          have hn : n0 = n := by simpa [lenV, hb, hver] using hlen
          subst hn
          have hone' : ∀ m, (zerosV z m).all V.one = true := by
            intro m
            induction m with
            | zero => rfl
            | succ m ih => rw [zerosV, List.all_append, hone, ih]; rfl
          rcases hq with ⟨c', o', hp, rfl, hncap, _⟩ | ⟨hp, rfl, rfl, rfl, hnil⟩
          · obtain ⟨w', q1, q2, q3, q4⟩ := write_env (P := P) (off := off) hR hH hfz he hp (zerosV_rel (g2 E) n0) (hone' n0) (by rw [zerosV_length, hzk]; exact hfit)
            refine opSound_of_run (cv := .tuple #[]) (E' := ⟨w', _, E.ρ, E.B, E.O⟩) (.inl ?_) rfl rfl rfl q2 q3 undef_rel q4 (fun _ h _ => h)
            have hzc := zeroCells_toList zv.cells n0
            rw [execOp, ho]
            by_cases hn0 : n0 = 0
            · subst hn0
              simp only [zerosC] at q1
              simp [storeCells] at q1
              simp [resolve, invoke, builtin, hcx, Builtin.clear_, h0, run_underlying hu, q1]
            · simp [resolve, invoke, builtin, hcx, Builtin.clear_, h0, run_underlying hu, g1, hzc, q1]
          · have hx0 : applyF E.H base ⟨.tup [], [(b, { blk with cells := setCells blk.cells 0 (zerosV z 0) })], []⟩ = E.H := updF_self hH
            refine opSound_of_run (cv := .tuple #[]) (E' := E) (.inl ?_) rfl rfl hx0.symm (Ext.refl E) hR undef_rel (Below.refl _ _) (fun _ h _ => h)
            rw [execOp, ho]
            cases A with
            | none => simp [resolve, invoke, builtin, hcx, Builtin.clear_, h0, run_underlying hu]
            | some ad => simp [resolve, invoke, builtin, hcx, Builtin.clear_, h0, run_underlying hu]
        · cases h
      · cases h
    · cases h
  · cases h
end
end
end Go.Proofs.Ytifgifhbefhkmaa.VM
