/- The machine of values: append. No conditions. -/
import Derived.Test.YtifgifhbefhkmaaVMh
namespace Go.Proofs.Ytifgifhbefhkmaa.VM
set_option linter.unusedSimpArgs false
set_option linter.unusedVariables false
open Go Go.RowKit
noncomputable section

theorem setC_eq : ∀ (vs l : List Value) (p : Nat), p + vs.length ≤ l.length → setC l p vs = l.take p ++ vs ++ l.drop (p + vs.length)
  | [], l, p, h => by simp [setC]
  | v :: r, l, p, h => by
    simp only [List.length_cons] at h
    rw [setC, setC_eq r _ _ (by simp; omega), List.drop_set, if_pos (by omega)]
    have : (l.set p v).take (p + 1) = l.take p ++ [v] := by
      rw [List.take_set, List.take_succ_eq_append_getElem (by omega), List.set_append, if_neg (by simp; omega), List.length_take, Nat.min_eq_left (by omega), Nat.sub_self]
      rfl
    rw [this]
    simp [Nat.add_comm 1, Nat.add_assoc]
    
section
variable {P : Program} {E : Env} {a : Act} {o : Oper} {base : Nat} {t : List V} {L : Heap}

theorem rowOf_rel2 (hR : HRel E) (hL : Sub L E) {k n : Nat} {v : V} {c : Value} {cs : List V} (h : rowOf L k v = some (cs, n)) (r : Rel E v c) :
    ∃ cvs, RelL E cs cvs ∧ cs.length = n * k ∧ (∀ w, (Builtin.lenOf c).run P w = .ok n w) ∧ ∀ m, m ≤ n → ∀ w', (∀ c i, w'.cell? ⟨c, i, none⟩ = E.w.cell? ⟨c, i, none⟩) → (Builtin.firstCells k m c).run P w' = .ok (cvs.take (m * k)).toArray w' := by
  have imm : ∀ {b o' : Nat} {n' cap : Nat} {xs : List V} {cvs : List Value}, RelL E xs cvs → n * k ≤ xs.length → n' = n → (∀ (i : Nat) (v : Value), cvs[i]? = some v → E.w.cell? ⟨b, o' + i, none⟩ = some v) →
      ∃ cvs', RelL E (xs.take (n * k)) cvs' ∧ (xs.take (n * k)).length = n * k ∧ (∀ w, (Builtin.lenOf (.slice (some ⟨b, o', none⟩) n' cap)).run P w = .ok n w) ∧
        ∀ m, m ≤ n → ∀ w', (∀ c i, w'.cell? ⟨c, i, none⟩ = E.w.cell? ⟨c, i, none⟩) → (Builtin.firstCells k m (.slice (some ⟨b, o', none⟩) n' cap)).run P w' = .ok (cvs'.take (m * k)).toArray w' := by
    intro b o' n' cap xs cvs hr hl hn hc
    subst hn
    refine ⟨cvs.take (n' * k), hr.take _, by rw [List.length_take]; omega, fun w => by simp [Builtin.lenOf], fun m hm w' hw' => ?_⟩
    have hmk : m * k ≤ n' * k := Nat.mul_le_mul_right _ hm
    have := run_loadCells_at (P := P) (w := w') (fun i v hv => by rw [hw']; exact hc i v hv) (m * k) (by rw [← hr.length]; omega)
    rw [List.take_take, Nat.min_eq_left hmk]
    simpa [Builtin.firstCells] using this
  cases r <;> simp only [rowOf] at h <;> try cases h
  · split at h
    · rename_i s hk
      simp only [Option.some.injEq, Prod.mk.injEq] at h
      obtain ⟨rfl, rfl⟩ := h
      subst hk
      refine ⟨s.data.toList.map fun b => Value.int .u8 b.toNat, RelL.of_get (by simp) fun i x y hx hy => ?_, by rw [List.length_map, Nat.mul_one]; rfl, fun w => rfl, fun m hm w' hw' => ?_⟩
      · simp only [List.getElem?_map] at hx hy
        cases hb : s.data.toList[i]? with
        | none => simp [hb] at hx
        | some b => simp [hb] at hx hy; subst hx; subst hy; exact .int _ _
      · simp only [Builtin.firstCells, Sem.run_pure, Nat.mul_one]
        congr 1
        apply Array.ext'
        simp [ByteArray.data_extract, List.extract_eq_take_drop]
    · cases h
  · exact ⟨[], .nil, by simp, fun w => by simp [Builtin.lenOf], fun m hm w' hw' => by simp [Builtin.firstCells]⟩
  · split at h
    · simp only [Option.some.injEq, Prod.mk.injEq] at h
      obtain ⟨rfl, rfl⟩ := h
      rename_i A cap _ _
      refine ⟨[], by simpa using RelL.nil, by simp, fun w => by simp [Builtin.lenOf], fun m hm w' hw' => ?_⟩
      obtain rfl : m = 0 := by omega
      cases A with
      | none => simp [Builtin.firstCells]
      | some ad => simp [Builtin.firstCells, loadCells, loadCellsFrom]
    · cases h
  · split at h
    · rename_i hs hf hn ht hr hc hle
      simp only [Option.some.injEq, Prod.mk.injEq] at h
      obtain ⟨rfl, rfl⟩ := h
      exact imm hr hle rfl hc
    · cases h
  · rename_i b off ver n0 cap A e he hv hp
    split at h
    · rename_i blk hb
      split at h
      · rename_i hcond
        simp only [Option.some.injEq, Prod.mk.injEq] at h
        obtain ⟨rfl, rfl⟩ := h
        obtain ⟨e', he', hl⟩ := hR.at_ b blk (hL b blk hb)
        rw [he] at he'
        cases he'
        obtain ⟨_, hq⟩ := hp (hl.1.trans hcond.1)
        rcases hq with ⟨c', o', hpos, rfl, h1, h2⟩ | ⟨hpos, rfl, rfl, rfl⟩
        · obtain ⟨cvs, g1, g2⟩ := block_cells hl hpos
          refine imm (g1.drop off) (by simp; omega) rfl fun i v hv => ?_
          rw [List.getElem?_drop] at hv
          have := g2 _ v hv
          rwa [← Nat.add_assoc] at this
        · refine ⟨[], by simpa using RelL.nil, by simp, fun w => by simp [Builtin.lenOf], fun m hm w' hw' => ?_⟩
          obtain rfl : m = 0 := by omega
          cases A with
          | none => simp [Builtin.firstCells]
          | some ad => simp [Builtin.firstCells, loadCells, loadCellsFrom]
      · cases h
    · cases h

theorem rowOf_rel (hR : HRel E) (hL : Sub L E) {k n : Nat} {v : V} {c : Value} {cs : List V} (h : rowOf L k v = some (cs, n)) (r : Rel E v c) :
    ∃ cvs, RelL E cs cvs ∧ cs.length = n * k ∧ (∀ w, (Builtin.lenOf c).run P w = .ok n w) ∧ ∀ m, m ≤ n → (Builtin.firstCells k m c).run P E.w = .ok (cvs.take (m * k)).toArray E.w := by
  obtain ⟨cvs, h1, h2, h3, h4⟩ := rowOf_rel2 (P := P) hR hL h r
  exact ⟨cvs, h1, h2, h3, fun m hm => h4 m hm E.w fun _ _ => rfl⟩

theorem growBy_le (n : Nat) : ∀ (r c : Nat), c ≤ 2 * n + 192 → Builtin.growBy n r c ≤ 2 * n + 192
  | 0, c, h => by simpa [Builtin.growBy] using h
  | r + 1, c, h => by
    rw [Builtin.growBy]
    split
    · exact h
    · exact growBy_le n r _ (by omega)
theorem nextslicecap_le (n c : Nat) (h : c < n) : Builtin.nextslicecap n c ≤ 2 * n + 192 := by
  unfold Builtin.nextslicecap
  split
  · omega
  · split
    · omega
    · exact growBy_le n 4 c (by omega)


theorem notInt {d : TypeDesc} (hd : ∀ kk, d ≠ .int kk) : (match (generalizing := false) d with | .int _ => true | _ => false) = false := by cases d <;> first | rfl | exact absurd rfl (hd _)
/-- What is appended: a row's cells, or zeros (of a row that is made for it). -/
def AppSrc (P : Program) (tyx e : TypeId) (c : Value) (k m : Nat) (new : Array Value) (w : World) : Prop :=
  (∃ d, P.underlying tyx = some d ∧ (∀ kk, d ≠ .int kk) ∧ (∀ w, (Builtin.lenOf c).run P w = .ok m w) ∧ (Builtin.firstCells k m c).run P w = .ok new w) ∨
  (∃ kk kd zv i, P.underlying tyx = some (.int kk) ∧ c = .int kd (m : Int) ∧ m ≤ 1099511627776 ∧ m * i.bytes ≤ 1099511627776 ∧ (∀ w, (zeroValue e).run P w = .ok zv w) ∧ zv.cells.size = k ∧ P.info? e = some i ∧ new = Builtin.zeroCells zv.cells m)
theorem wrap_i64 {m : Nat} (h : m ≤ 1099511627776) : IntKind.i64.wrap (m : Int) = m := by
  simp [IntKind.wrap, IntKind.bits, IntKind.signed]; omega
theorem zeroCells_nil {z : Array Value} {m : Nat} (h : m * z.size = 0) : Builtin.zeroCells z m = #[] := by simp [Builtin.zeroCells, h]
theorem append_room {ty e tyx rt : TypeId} {x : Value} {k n m cap : Nat} {A : Option Addr} {w : World} {new : Array Value}
    (hu : P.underlying ty = some (.slice e)) (hsrc : AppSrc P tyx e x k m new w)
    (hsz : ∀ w, (sizeOf e).run P w = .ok k w) (hle : n + m ≤ cap) :
    (Builtin.append_ #[ty, tyx] rt #[.slice A n cap, x]).run P w = (match A with
      | some ad => ((storeCells (ad.add (n * k)) new.toList).run P w).andThen fun _ w' => .ok (.slice A (n + m) cap) w'
      | none => .ok (.slice A (n + m) cap) w) := by
  rcases hsrc with ⟨d, hux, hd, hlen, hnew⟩ | ⟨kk, kd, zv, i, hux, rfl, hm, hmb, hz, hzs, hi, rfl⟩
  · cases A with
    | none => simp [Builtin.append_, run_underlying hu, run_underlying hux, hsz, hlen, hle, hnew]
    | some ad => simp [Builtin.append_, run_underlying hu, run_underlying hux, hsz, hlen, hle, hnew]
  · have hw := wrap_i64 hm
    have h0 : ¬ ((m : Int) < 0) := by omega
    have h1 : ¬ ((281474976710656 : Int) < (m : Int) * i.bytes) := by
      have : ((m * i.bytes : Nat) : Int) ≤ ((1099511627776 : Nat) : Int) := Int.ofNat_le.2 hmb
      rw [← Int.natCast_mul]
      omega
    by_cases hmk : m * k = 0
    · have hzc : Builtin.zeroCells zv.cells m = #[] := zeroCells_nil (by rw [hzs]; exact hmk)
      cases A with
      | none => simp [Builtin.append_, run_underlying hu, run_underlying hux, hsz, hle, asInt, asIntOf, hw, typeInfo, hi, h0, h1, hmk, hzc]
      | some ad => simp [Builtin.append_, run_underlying hu, run_underlying hux, hsz, hle, asInt, asIntOf, hw, typeInfo, hi, h0, h1, hmk, hzc]
    · cases A with
      | none => simp [Builtin.append_, run_underlying hu, run_underlying hux, hsz, hle, asInt, asIntOf, hw, typeInfo, hi, h0, h1, hmk, hz]
      | some ad => simp [Builtin.append_, run_underlying hu, run_underlying hux, hsz, hle, asInt, asIntOf, hw, typeInfo, hi, h0, h1, hmk, hz]

theorem append_grow {ty e tyx rt : TypeId} {x : Value} {i : TypeInfo} {zv : Value} {k n m cap : Nat} {A : Option Addr} {w : World} {new old : Array Value}
    (hu : P.underlying ty = some (.slice e)) (hi : P.info? e = some i)
    (hz : ∀ w, (zeroValue e).run P w = .ok zv w) (hsz : ∀ w, (sizeOf e).run P w = .ok k w)
    (hsrc : AppSrc P tyx e x k m new w.drew)
    (hold : (Builtin.firstCells k n (.slice A n cap)).run P w.drew = .ok old w.drew)
    (hgt : cap < n + m) (hb : (n + m) * i.bytes ≤ 1099511627776) (hb2 : i.bytes ≤ 1048576) (hm : n + m ≤ 1099511627776) :
    ∃ nc, n + m ≤ nc ∧ (Builtin.append_ #[ty, tyx] rt #[.slice A n cap, x]).run P w = .ok (.slice (some ⟨w.heap.size, 0, none⟩) (n + m) nc)
      { w.drew with heap := w.heap.push (.cells (old ++ new ++ Builtin.zeroCells zv.cells (nc - (n + m))) e (0, 0)) } := by
  have hcap := nextslicecap_le (n + m) cap hgt
  have hmul : Builtin.nextslicecap (n + m) cap * i.bytes ≤ 281474976710656 := by
    have h1 : Builtin.nextslicecap (n + m) cap * i.bytes ≤ (2 * (n + m) + 192) * i.bytes := Nat.mul_le_mul_right _ hcap
    have h2 : (2 * (n + m) + 192) * i.bytes = 2 * ((n + m) * i.bytes) + 192 * i.bytes := by rw [Nat.add_mul, Nat.mul_assoc]
    omega
  have hle : ¬ (n + m ≤ cap) := by omega
  have hq : (Question.appendCap (n + m) cap e).forced = false := rfl
  refine ⟨(Question.appendCap (n + m) cap e).cut (w.tape w.drawn (.appendCap (n + m) cap e)), by simp [Question.cut], ?_⟩
  generalize hnc : (Question.appendCap (n + m) cap e).cut (w.tape w.drawn (.appendCap (n + m) cap e)) = nc
  have q1 : ¬ (281474976710656 < Builtin.nextslicecap (n + m) cap * i.bytes) := by omega
  have q2 : ¬ ((9223372036854775807 : Int) < (n : Int) + m) := by omega
  have hask : ∀ b, ∀ w, (askRoom b).run P w = .ok () w := by
    intro b w
    unfold askRoom
    split <;> rfl
  rcases hsrc with ⟨d, hux, hd, hlen, hnew⟩ | ⟨kk, kd, zv', i', hux, rfl, hm', hmb, hz', hzs, hi', rfl⟩
  · simp [Builtin.append_, run_underlying hu, run_underlying hux, hsz, hlen, hle, hi, typeInfo, q1, q2, hq, hnc, hask, hnew, hold, hz, newRow]
    rfl
  · have hzz : zv' = zv := by
      have h1 := hz w
      rw [hz' w] at h1
      simpa using h1
    subst hzz
    rw [hi] at hi'
    cases hi'
    have hw := wrap_i64 hm'
    have h0 : ¬ ((m : Int) < 0) := by omega
    have h1 : ¬ ((281474976710656 : Int) < (m : Int) * i.bytes) := by
      have : ((m * i.bytes : Nat) : Int) ≤ ((1099511627776 : Nat) : Int) := Int.ofNat_le.2 hmb
      rw [← Int.natCast_mul]
      omega
    by_cases hmk : m * k = 0
    · have hzc : Builtin.zeroCells zv'.cells m = #[] := zeroCells_nil (by rw [hzs]; exact hmk)
      simp [Builtin.append_, run_underlying hu, run_underlying hux, hsz, hle, hi, typeInfo, q1, q2, hq, hnc, hask, asInt, asIntOf, hw, h0, h1, hmk, hzc, hold, hz, newRow]
      rfl
    · simp [Builtin.append_, run_underlying hu, run_underlying hux, hsz, hle, hi, typeInfo, q1, q2, hq, hnc, hask, asInt, asIntOf, hw, h0, h1, hmk, hold, hz, newRow]
      rfl
end
end
end Go.Proofs.Ytifgifhbefhkmaa.VM
