/- The machine of values: append, proved. No conditions. -/
import Derived.Test.YtifgifhbefhkmaaVMi
namespace Go.Proofs.Ytifgifhbefhkmaa.VM
set_option linter.unusedSimpArgs false
set_option linter.unusedVariables false
open Go Go.RowKit
noncomputable section
section
variable {P : Program} {E : Env} {a : Act} {o : Oper} {base : Nat} {t : List V} {L : Heap}

theorem zeroCells_toList (z : Array Value) (n : Nat) : (Builtin.zeroCells z n).toList = zerosC z.toList n := range_zeros z n

theorem drew_cell {w : World} {c i : Nat} : w.drew.cell? ⟨c, i, none⟩ = w.cell? ⟨c, i, none⟩ := rfl
def Env.drew (E : Env) : Env := { E with w := E.w.drew }
theorem drew_env (hR : HRel E) : Ext E E.drew ∧ HRel E.drew := ⟨ext_world (fun _ _ => rfl) (Nat.le_refl _), hrel_world hR (fun _ _ => rfl) (Nat.le_refl _)⟩

theorem drew_back (E : Env) : Ext E.drew E := ⟨rfl, fun _ _ _ _ h => h, fun _ h => h, fun _ e h => ⟨e, h, .inl rfl⟩⟩
theorem fresh_upd2 {b : Nat} {e e' : RE} {m : Nat} (hb : E.ρ b = some e) : ∀ b', E.ρ b' = none → ¬ (base ≤ b' ∧ b' < base + m) → updF E.ρ b e' b' = none := by
  intro b' h _
  unfold updF
  rw [if_neg (fun q => by rw [q, hb] at h; cases h)]
  exact h

theorem splice_window (l vs : List Value) (q p : Nat) (hq : q ≤ p) (hp : p + vs.length ≤ l.length) : ((setC l p vs).drop q).take (p - q + vs.length) = ((l.drop q).take (p - q)) ++ vs := by
  rw [setC_eq vs l p hp, List.append_assoc, List.drop_append_of_le_length (by rw [List.length_take]; omega), List.drop_take, ← List.append_assoc]
  exact List.take_left' (by simp; omega)

/-- append makes a new row. -/
theorem append_new (hR : HRel E) {ty e tyx : TypeId} {x y : Operand}
    (ho : o.op = .call { callee := .builtin .append, args := #[x, y], argTypes := #[ty, tyx] }) (hu : P.underlying ty = some (.slice e))
    {z new : List V} {cvs : List Value} {m n cap : Nat} {i : TypeInfo} {A : Option Addr} (hz : zeroV P e = some z) (hi : P.info? e = some i) (hsrc : AppSrc P tyx e (a.eval y) z.length m cvs.toArray E.w.drew) (hrn : RelL E new cvs) (hnk : new.length = m * z.length)
    (hx : a.eval x = .slice A n cap) (hgt : cap < n + m) (hb : (n + m) * i.bytes ≤ 1099511627776) (hb2 : i.bytes ≤ 1048576) (hm : n + m ≤ 1099511627776)
    {old : List V} {oldc : List Value} (hold : (Builtin.firstCells z.length n (.slice A n cap)).run P E.w.drew = .ok oldc.toArray E.w.drew) (hro : RelL E old oldc) (hlo : old.length = n * z.length) :
    ∃ nc arr, n + m ≤ nc ∧ (execOp a.eval o).run P E.w = .ok (.value (.slice (some ⟨E.w.heap.size, 0, none⟩) (n + m) nc)) { E.w.drew with heap := E.w.heap.push (.cells arr e (0, 0)) } ∧
      arr.size = nc * z.length ∧ RelL E (old ++ new) (arr.toList.take (old ++ new).length) ∧ (old ++ new).length = (n + m) * z.length := by
  obtain ⟨zv, k, g1, g2, g3, g4⟩ := zeroV_run hz
  have hzl := (g2 E).length
  have hzs : zv.cells.size = z.length := by simp at hzl; omega
  obtain ⟨nc, h1, h2⟩ := append_grow (P := P) (rt := o.type) (w := E.w) (A := A) (new := cvs.toArray) (old := oldc.toArray) hu hi g1 (fun w => by rw [g4, g3]) hsrc hold hgt hb hb2 hm
  have hnl := hrn.length
  have hol := hro.length
  refine ⟨nc, oldc.toArray ++ cvs.toArray ++ Builtin.zeroCells zv.cells (nc - (n + m)), h1, ?_, ?_, ?_, ?_⟩
  · rw [execOp, ho]
    simp [resolve, invoke, builtin, hx, h2]
  · have hzc := congrArg List.length (zeroCells_toList zv.cells (nc - (n + m)))
    rw [zerosC_length] at hzc
    simp at hzc
    simp only [Array.size_append, List.size_toArray, hzc, hzs]
    rw [← hol, hlo, ← hnl, hnk, ← Nat.add_mul, ← Nat.add_mul]
    congr 1
    omega
  · simp only [Array.toList_append, List.append_assoc]
    rw [← List.append_assoc, List.take_append_of_le_length (by simp; omega), List.take_of_length_le (by simp; omega)]
    exact hro.append hrn
  · rw [List.length_append, hlo, hnk, Nat.add_mul]

theorem append_sound (hR : HRel E) (hL : Sub L E) (ht : RelL E t a.tmps.toList) {ty e tyx : TypeId} {x y : Operand} {d : TypeDesc}
    (ho : o.op = .call { callee := .builtin .append, args := #[x, y], argTypes := #[ty, tyx] }) (hu : P.underlying ty = some (.slice e)) (hux : P.underlying tyx = some d)
    {s v : V} (hx : evalV t x = some s) (hy : evalV t y = some v) {eff : Eff} (h : appendV P L base e (isInt d) s v = some eff) (hfresh : ∀ b, base ≤ b → b < base + eff.new.length → E.ρ b = none) : OpSound P E a o base eff := by
  unfold appendV at h
  split at h
  · rename_i z i hz hi
    split at h
    · rename_i new m hrow0
      split at h
      · rename_i hc1
        obtain ⟨hb2, hb0, hm, hmb⟩ := hc1
        have rs := evalV_rel ht hx
        obtain ⟨zv, k, g1, g2, g3, g4⟩ := zeroV_run hz
        obtain ⟨cvs, r1, r2, hsrc⟩ : ∃ cvs, RelL E new cvs ∧ new.length = m * z.length ∧ ∀ w, w = E.w ∨ w = E.w.drew → AppSrc P tyx e (a.eval y) z.length m cvs.toArray w := by
          unfold newRowV at hrow0
          split at hrow0
          · rename_i hint
            split at hrow0
            · rename_i kd l
              split at hrow0
              · rename_i hl
                simp only [Option.some.injEq, Prod.mk.injEq] at hrow0
                obtain ⟨rfl, rfl⟩ := hrow0
                have hzl := (g2 E).length
                have hzs : zv.cells.size = z.length := by rw [hzl]; rfl
                refine ⟨(Builtin.zeroCells zv.cells l.toNat).toList, ?_, zerosV_length _ _, fun w _ => .inr ?_⟩
                · rw [zeroCells_toList]
                  exact zerosV_rel (g2 E) _
                · have rv := evalV_rel ht hy
                  generalize hcy : a.eval y = cy at rv
                  cases rv
                  cases d with
                  | int kk => exact ⟨kk, kd, zv, i, hux, by rw [Int.toNat_of_nonneg hl.1], by omega, hmb, g1, hzs, hi, by simp⟩
                  | _ => cases hint
              · cases hrow0
            · cases hrow0
          · rename_i hint
            have hd : ∀ kk, d ≠ .int kk := by
              intro kk hq
              subst hq
              exact hint rfl
            obtain ⟨cvs, r1, r2, r3, r4⟩ := rowOf_rel2 (P := P) hR hL hrow0 (evalV_rel ht hy)
            have hnl := r1.length
            have hcv : cvs.take (m * z.length) = cvs := List.take_of_length_le (by omega)
            refine ⟨cvs, r1, r2, fun w hw => .inl ⟨d, hux, hd, r3, ?_⟩⟩
            have e1 := r4 m (Nat.le_refl _) w (by rcases hw with rfl | rfl <;> exact fun _ _ => rfl)
            rwa [hcv] at e1
        have hnl := r1.length
        -- a new row
        have mk : E.ρ base = none → ∀ {n cap : Nat} {A : Option Addr} {old : List V} {oldc : List Value}, a.eval x = .slice A n cap → cap < n + m → (n + m) * i.bytes ≤ 1099511627776 → n + m ≤ 1099511627776 →
            (Builtin.firstCells z.length n (.slice A n cap)).run P E.w.drew = .ok oldc.toArray E.w.drew → RelL E old oldc → old.length = n * z.length →
            OpSound P E a o base ⟨.slB base 0 0 (n + m), [], [⟨old ++ new, z.length, 0, false⟩]⟩ := by
          intro hfresh n cap A old oldc hxx hgt hb hn hold hro hlo
          obtain ⟨nc, arr, h1, h2, h3, h4, h5⟩ := append_new hR ho hu hz hi (hsrc _ (.inr rfl)) r1 r2 hxx hgt hb hb2 hn hold hro hlo
          refine opSound_new (arr := arr) (el := e) (lo := 0) (hi := 0) hR h2 rfl rfl rfl rfl hfresh (by omega) (by rw [h5, h3]; exact Nat.mul_le_mul_right _ h1) h4 ?_
          exact .slB (e := ⟨some (E.w.heap.size, 0), z.length, 0, arr.size⟩) (by simp [updF]) (Nat.le_refl _) (fun _ => ⟨rfl, .inl ⟨_, _, rfl, rfl, h1, by simp [h3]⟩⟩)
        -- nothing is appended to nothing
        have mt : E.ρ base = none → ∀ {A : Option Addr} {old : List V}, a.eval x = .slice A 0 0 → m = 0 → old = [] → OpSound P E a o base ⟨.slB base 0 0 (0 + m), [], [⟨old ++ new, z.length, 0, false⟩]⟩ := by
          intro hfresh A old hxx hm0 hold
          subst hold
          subst hm0
          have hn0 : new = [] := by
            have : new.length = 0 := by omega
            exact List.length_eq_zero_iff.1 this
          subst hn0
          have hroom := append_room (P := P) (rt := o.type) (n := 0) (cap := 0) (A := A) hu (hsrc _ (.inl rfl)) (fun w => by rw [g4, g3]) (Nat.le_refl _)
          have hc0 : cvs = [] := List.length_eq_zero_iff.1 (by rw [← hnl]; rfl)
          rw [hc0] at hroom
          have hrun : (execOp a.eval o).run P E.w = .ok (.value (.slice A 0 0)) E.w := by
            rw [execOp, ho]
            cases A with
            | none => simp only [Nat.zero_add] at hroom; simp [resolve, invoke, builtin, hxx, hroom]
            | some ad => simp only [Nat.zero_mul, Nat.zero_add, List.take_zero] at hroom; simp [resolve, invoke, builtin, hxx, hroom, storeCells]
          obtain ⟨x1, x2⟩ := ext_upd (w' := E.w) (b := base) (blk' := ⟨[], z.length, 0, false⟩) (e' := ⟨none, z.length, 0, 0⟩) hR (fun _ _ _ => rfl) (Nat.le_refl _) (fun c o hp => by cases hp)
            (fun e he => by rw [hfresh] at he; cases he) (fun _ => ⟨rfl, rfl, rfl, rfl⟩)
          exact opSound_of_run (E' := ⟨E.w, updF E.H base ⟨[], z.length, 0, false⟩, updF E.ρ base ⟨none, z.length, 0, 0⟩, E.B, E.O⟩) (.inl hrun) rfl rfl rfl x1 x2
            (.slB (e := ⟨none, z.length, 0, 0⟩) (by simp [updF]) (Nat.le_refl _) (fun _ => ⟨rfl, .inr ⟨rfl, rfl, rfl, rfl⟩⟩)) (Below.refl _ _) (fresh_upd (Nat.le_refl 1))
        have hfc : ∀ A, (Builtin.firstCells z.length 0 (.slice A 0 0)).run P E.w.drew = .ok ([] : List Value).toArray E.w.drew := by
          intro A
          cases A with
          | none => simp [Builtin.firstCells]
          | some ad => simp [Builtin.firstCells, loadCells, loadCellsFrom]
        split at h
        · -- nil
          cases h
          generalize hcx : a.eval x = cx at rs
          cases rs
          by_cases hm0 : m = 0
          · have := mt (hfresh base (Nat.le_refl _) (by simp)) (old := []) hcx hm0 rfl
            rwa [Nat.zero_add] at this
          · have := mk (hfresh base (Nat.le_refl _) (by simp)) (n := 0) (cap := 0) (old := []) (oldc := []) hcx (by omega) (by rw [Nat.zero_add]; exact hmb) (by omega) (hfc none) .nil (by simp)
            rwa [Nat.zero_add] at this
        · rename_i fr cs n
          split at h
          · rename_i hc2
            obtain ⟨hb, hncs, hn⟩ := hc2
            generalize hcx : a.eval x = cx at rs
            split at h
            · rename_i hmn
              cases h
              cases rs with
              | slI0 _ => exact absurd rfl hmn.2
              | slI hs hf hnc ht' hr hc =>
                rename_i cvs0 cap c o'
                obtain rfl := ht' rfl
                have hm0 := hmn.1
                subst hm0
                have hroom := append_room (P := P) (rt := o.type) (n := cap) (cap := cap) (A := some ⟨c, o', none⟩) hu (hsrc _ (.inl rfl)) (fun w => by rw [g4, g3]) (by omega)
                have hc0 : cvs = [] := List.length_eq_zero_iff.1 (by rw [← hnl, r2, Nat.zero_mul])
                rw [hc0] at hroom
                refine opSound_pure hR (cv := .slice (some ⟨c, o', none⟩) cap cap) ?_ (.slI hs hf hnc ht' hr hc)
                rw [execOp, ho]
                simp only [Nat.zero_mul, Nat.add_zero, List.take_zero] at hroom
                simp [resolve, invoke, builtin, hcx, hroom, storeCells]
            · rename_i hmn
              cases h
              cases rs with
              | slI0 hcap =>
                rename_i A cap
                obtain rfl := hcap rfl
                simp only [Nat.zero_mul, List.take_zero]
                by_cases hm0 : m = 0
                · exact mt (hfresh base (Nat.le_refl _) (by simp)) (old := []) hcx hm0 rfl
                · exact mk (hfresh base (Nat.le_refl _) (by simp)) (n := 0) (cap := 0) (old := []) (oldc := []) hcx (by omega) (by rw [Nat.zero_add]; exact hmb) (by omega) (hfc A) .nil (by simp)
              | slI hs hf hnc ht' hr hc =>
                rename_i cvs0 cap c o'
                obtain rfl := ht' rfl
                by_cases hm0 : m = 0
                · obtain rfl : cap = 0 := by
                    by_cases q : cap = 0
                    · exact q
                    · exact absurd ⟨hm0, q⟩ hmn
                  exact mt (hfresh base (Nat.le_refl _) (by simp)) hcx hm0 (by simp)
                · refine mk (hfresh base (Nat.le_refl _) (by simp)) (n := cap) (cap := cap) (old := cs.take (cap * z.length)) (oldc := cvs0.take (cap * z.length)) hcx (by omega) hb hn ?_ (hr.take _) (by rw [List.length_take]; omega)
                  have := run_loadCells_at (P := P) (w := E.w.drew) (c := c) (o := o') hc (cap * z.length) (by rw [← hr.length]; omega)
                  simpa [Builtin.firstCells] using this
          · cases h
        · rename_i b off ver n
          split at h
          · rename_i blk hb
            split at h
            · rename_i hc2
              obtain ⟨hver, hfz, hk, hoff, hnb, hn, hone⟩ := hc2
              cases h
              generalize hcx : a.eval x = cx at rs
              cases rs with
              | slB he hle hpos =>
                rename_i cap A e0
                have hH := hL b blk hb
                obtain ⟨e1, he1, hl⟩ := hR.at_ b blk hH
                rw [he] at he1
                cases he1
                have hlv := hl
                obtain ⟨hlv1, hlv2, hlv3⟩ := hl
                obtain ⟨_, hq⟩ := hpos (hlv1.trans hver)
                -- the row moves
                have move : ∀ {old : List V} {oldc : List Value}, cap < n + m → (Builtin.firstCells z.length n (.slice A n cap)).run P E.w.drew = .ok oldc.toArray E.w.drew → RelL E old oldc → old.length = n * z.length → blk.cells.drop off = old →
                    OpSound P E a o base ⟨.slB b 0 (ver + 1) (n + m), [(b, ⟨blk.cells.drop off ++ new, z.length, ver + 1, false⟩)], []⟩ := by
                  intro old oldc hgt hold hro hlo hd0
                  obtain ⟨nc, arr, h1, h2, h3, h4, h5⟩ := append_new hR ho hu hz hi (hsrc _ (.inr rfl)) r1 r2 hcx hgt hnb hb2 hn hold hro hlo
                  rw [hd0]
                  have hold' : ∀ c, c < E.w.heap.size → (E.w.heap.push (.cells arr e (0, 0)))[c]? = E.w.heap[c]? := by
                    intro c hc
                    rw [Array.getElem?_push, if_neg (by omega)]
                  obtain ⟨x1, x2⟩ := ext_upd (w' := { E.w.drew with heap := E.w.heap.push (.cells arr e (0, 0)) }) (b := b) (blk' := ⟨old ++ new, z.length, ver + 1, false⟩) (e' := ⟨some (E.w.heap.size, 0), z.length, ver + 1, arr.size⟩) hR
                    (fun c hc _ => hold' c hc) (by simp) (fun c o hp => by simp only [Option.some.injEq, Prod.mk.injEq] at hp; exact .inl (by omega))
                    (fun e1 he1 => by rw [he] at he1; cases he1; exact .inr (by simp only; omega))
                    (fun hx => ⟨rfl, rfl, hR.le, arr, e, 0, 0, by simp, rfl, by rw [h5, h3, Nat.zero_add]; exact Nat.mul_le_mul_right _ h1, by omega, by simpa using h4.mono hx⟩)
                  refine opSound_of_run (E' := ⟨{ E.w.drew with heap := E.w.heap.push (.cells arr e (0, 0)) }, updF E.H b ⟨old ++ new, z.length, ver + 1, false⟩, updF E.ρ b ⟨some (E.w.heap.size, 0), z.length, ver + 1, arr.size⟩, E.B, E.O⟩)
                    (.inl h2) rfl rfl rfl x1 x2 ?_ ⟨rfl, rfl, rfl, by simp, fun c hc => hold' c (Nat.lt_of_lt_of_le hc hR.le)⟩ (fresh_upd2 he)
                  exact .slB (e := ⟨some (E.w.heap.size, 0), z.length, ver + 1, arr.size⟩) (by simp [updF]) (Nat.le_refl _) (fun _ => ⟨rfl, .inl ⟨_, _, rfl, rfl, h1, by simp [h3]⟩⟩)
                rcases hq with ⟨c, o', hp', rfl, hncap, hfit⟩ | ⟨hp', rfl, rfl, rfl⟩
                · obtain ⟨ocv, oc1, oc2⟩ := block_cells hlv hp'
                  have holen := oc1.length
                  by_cases hroomy : n + m ≤ cap
                  · -- there is room
                    have hroom := append_room (P := P) (rt := o.type) (n := n) (cap := cap) (A := some ⟨c, o' + off, none⟩) hu (hsrc _ (.inl rfl)) (fun w => by rw [g4, g3]) hroomy
                    rw [hp'] at hlv3
                    obtain ⟨q3, arr, el, lo, hi', q4, q5, q6, q7, q8⟩ := hlv3
                    have hmk : (n + m) * z.length ≤ cap * z.length := Nat.mul_le_mul_right _ hroomy
                    have hek : e0.k = z.length := hlv2.trans hk
                    rw [hek] at hfit
                    rw [Nat.add_mul] at hmk
                    obtain ⟨w', k1, k2, k3, k4, k5, k6, k7⟩ := store_run (P := P) (c := c) (o := o' + off + n * z.length) cvs 0 E.w arr q4 (by omega) (by omega) (relL_one r1 hone)
                    obtain ⟨x1, x2⟩ := ext_upd (w' := w') (b := b) (blk' := ⟨blk.cells.drop off ++ new, z.length, ver + 1, false⟩) (e' := ⟨some (c, o' + off), z.length, ver + 1, e0.asz⟩) hR
                      (fun d hd hne => k3 d (fun q => hne (o' + off) (by rw [q]))) (by omega) (fun c1 o1 hp1 => by simp only [Option.some.injEq, Prod.mk.injEq] at hp1; obtain ⟨rfl, rfl⟩ := hp1; exact .inr ⟨blk, e0, o', hH, hfz, he, hp'⟩)
                      (fun e1 he1 => by rw [he] at he1; cases he1; exact .inr (by simp only; omega))
                      (fun hx => by
                        refine ⟨rfl, rfl, q3, _, el, lo, hi', k2, by simp [setC_length, q5], by simp; omega, q7, ?_⟩
                        simp only [Nat.add_zero]
                        have hlen : (blk.cells.drop off ++ new).length = n * z.length + cvs.length := by simp; omega
                        have hw0 := splice_window arr.toList cvs (o' + off) (o' + off + n * z.length) (by omega) (by simp; omega)
                        rw [Nat.add_sub_cancel_left] at hw0
                        rw [hlen]
                        show RelL _ _ (((setC arr.toList (o' + off + n * z.length) cvs).drop (o' + off)).take (n * z.length + cvs.length))
                        rw [hw0]
                        have hq9 := (q8.drop off).mono hx
                        rw [List.drop_take, List.drop_drop, show blk.cells.length - off = n * z.length from by omega] at hq9
                        exact hq9.append (r1.mono hx))
                    refine opSound_of_run (E' := ⟨w', updF E.H b ⟨blk.cells.drop off ++ new, z.length, ver + 1, false⟩, updF E.ρ b ⟨some (c, o' + off), z.length, ver + 1, e0.asz⟩, E.B, E.O⟩)
                      (cv := .slice (some ⟨c, o' + off, none⟩) (n + m) cap) (.inl ?_) rfl rfl rfl x1 x2 ?_ ⟨k5, k6, k7, Nat.le_of_eq k4.symm, fun d hd => k3 d (by omega)⟩ (fresh_upd2 he)
                    · rw [execOp, ho]
                      simp only [Addr.add_lit] at hroom
                      simp [resolve, invoke, builtin, hcx, hroom, k1]
                    · exact .slB (e := ⟨some (c, o' + off), z.length, ver + 1, e0.asz⟩) (by simp [updF]) (Nat.le_refl _) (fun _ => ⟨rfl, .inl ⟨c, o' + off, rfl, by simp, hroomy, by simpa using hfit⟩⟩)
                  · refine move (old := blk.cells.drop off) (oldc := ocv.drop off) (by omega) ?_ (oc1.drop off) (by simp; omega) rfl
                    have hcl : ∀ (i : Nat) (v : Value), (ocv.drop off)[i]? = some v → E.w.drew.cell? ⟨c, o' + off + i, none⟩ = some v := by
                      intro i v hv
                      rw [List.getElem?_drop] at hv
                      have := oc2 _ v hv
                      rwa [← Nat.add_assoc] at this
                    have := run_loadCells_at (P := P) hcl (n * z.length) (by simp; omega)
                    rw [List.take_of_length_le (by simp; omega)] at this
                    simpa [Builtin.firstCells] using this
                · rw [hp'] at hlv3
                  have hnil := hlv3.1
                  by_cases hm0 : m = 0
                  · subst hm0
                    have hn0 : new = [] := by
                      have : new.length = 0 := by omega
                      exact List.length_eq_zero_iff.1 this
                    subst hn0
                    have hroom := append_room (P := P) (rt := o.type) (n := 0) (cap := 0) (A := A) hu (hsrc _ (.inl rfl)) (fun w => by rw [g4, g3]) (Nat.le_refl _)
                    have hc0 : cvs = [] := List.length_eq_zero_iff.1 (by rw [← hnl]; rfl)
                    rw [hc0] at hroom
                    have hrun : (execOp a.eval o).run P E.w = .ok (.value (.slice A 0 0)) E.w := by
                      rw [execOp, ho]
                      cases A with
                      | none => simp only [Nat.zero_add] at hroom; simp [resolve, invoke, builtin, hcx, hroom]
                      | some ad => simp only [Nat.zero_mul, Nat.zero_add, List.take_zero] at hroom; simp [resolve, invoke, builtin, hcx, hroom, storeCells]
                    obtain ⟨x1, x2⟩ := ext_upd (w' := E.w) (b := b) (blk' := ⟨[], z.length, ver + 1, false⟩) (e' := ⟨none, z.length, ver + 1, 0⟩) hR (fun _ _ _ => rfl) (Nat.le_refl _) (fun c o hp => by cases hp)
                      (fun e1 he1 => by rw [he] at he1; cases he1; exact .inr (by simp only; omega)) (fun _ => ⟨rfl, rfl, rfl, rfl⟩)
                    rw [hnil]
                    exact opSound_of_run (E' := ⟨E.w, updF E.H b ⟨[], z.length, ver + 1, false⟩, updF E.ρ b ⟨none, z.length, ver + 1, 0⟩, E.B, E.O⟩) (.inl hrun) rfl rfl rfl x1 x2
                      (.slB (e := ⟨none, z.length, ver + 1, 0⟩) (by simp [updF]) (Nat.le_refl _) (fun _ => ⟨rfl, .inr ⟨rfl, rfl, rfl, rfl⟩⟩)) (Below.refl _ _) (fresh_upd2 he)
                  · exact move (old := []) (oldc := []) (by omega) (hfc A) .nil (by simp) (by simp [hnil])
            · cases h
          · cases h
        · cases h
      · cases h
    · cases h
  · cases h
end
end
end Go.Proofs.Ytifgifhbefhkmaa.VM
