/- The machine of values: small operations; all of them together. No conditions. -/
import Derived.Test.YtifgifhbefhkmaaVMo
namespace Go.Proofs.Ytifgifhbefhkmaa.VM
set_option linter.unusedSimpArgs false
set_option linter.unusedVariables false
open Go Go.RowKit
noncomputable section
section
variable {P : Program} {E : Env} {a : Act} {o : Oper} {base : Nat} {t : List V} {L : Heap}

/-- A constant's bytes: their row is marked at its end. -/
theorem mark_sound (hR : HRel E) (ht : RelL E t a.tmps.toList) {ty e : TypeId} {x : Operand} (ho : o.op = .convert ty ty x) (hu : P.underlying ty = some (.slice e)) (he : P.underlying e = some (.int .u8))
    {v : V} {cs : List V} {n : Nat} {tight : Bool} (hx : evalV t x = some (.slI true (v :: cs) n tight)) : OpSound P E a o base (Eff.pure (.slI true (v :: cs) n tight)) := by
  have r := evalV_rel ht hx
  generalize hcx : a.eval x = cx at r
  cases r with
  | slI hs hf hn htt hr hc =>
    rename_i cvs cap c o'
    have hr0 := hr
    cases hr with
    | cons r0 rs =>
      rename_i c0 cs0
      have h0 := hc 0 c0 rfl
      obtain ⟨arr, el, lo, hi, hh⟩ : ∃ arr el lo hi, E.w.heap[c]? = some (.cells arr el (lo, hi)) := by
        unfold World.cell? at h0
        split at h0
        · rename_i arr el fr hh
          exact ⟨arr, el, fr.1, fr.2, hh⟩
        · cases h0
      let w' := E.w.freeze ⟨c, arr.size, none⟩ 1
      have hother : ∀ d, d ≠ c → w'.heap[d]? = E.w.heap[d]? := by
        intro d hd
        show (E.w.freeze ⟨c, arr.size, none⟩ 1).heap[d]? = _
        simp [World.freeze, Array.getElem?_modify]
        exact fun q => absurd q.symm hd
      have hthis : w'.heap[c]? = some (.cells arr el (if lo == hi then (arr.size, arr.size + 1) else (min lo arr.size, max hi (arr.size + 1)))) := by
        show (E.w.freeze ⟨c, arr.size, none⟩ 1).heap[c]? = _
        simp [World.freeze, Array.getElem?_modify, hh]
      obtain ⟨lo', hi', hthis', hlo'⟩ : ∃ lo' hi', w'.heap[c]? = some (.cells arr el (lo', hi')) ∧ ((lo = hi ∨ arr.size ≤ lo) → (lo' = hi' ∨ arr.size ≤ lo')) := by
        by_cases q : (lo == hi) = true
        · rw [if_pos q] at hthis
          exact ⟨_, _, hthis, fun _ => .inr (Nat.le_refl _)⟩
        · rw [if_neg q] at hthis
          simp only [beq_iff_eq] at q
          exact ⟨_, _, hthis, fun q1 => by omega⟩
      have hsz : w'.heap.size = E.w.heap.size := by
        show (E.w.freeze ⟨c, arr.size, none⟩ 1).heap.size = _
        simp [World.freeze]
      have hcell : ∀ d i, w'.cell? ⟨d, i, none⟩ = E.w.cell? ⟨d, i, none⟩ := by
        intro d i
        by_cases hd : d = c
        · subst hd
          rw [cell_at hh, cell_at hthis']
        · exact cell_of_heap (hother d hd)
      have hx : Ext E { E with w := w' } := ⟨rfl, fun d i v _ hv => by rw [hcell]; exact hv, fun d hd => ⟨by rw [hsz]; exact hd.1, hd.2.1, hd.2.2⟩, fun b e he => ⟨e, he, .inl rfl⟩⟩
      have hR' : HRel { E with w := w' } := by
        refine ⟨fun b blk hb => ?_, hR.inj, by rw [hsz]; exact hR.le⟩
        obtain ⟨e1, he1, hl⟩ := hR.at_ b blk hb
        refine ⟨e1, he1, hl.1, hl.2.1, ?_⟩
        have h3 := hl.2.2
        revert h3
        cases hp : e1.pos with
        | none => exact id
        | some p =>
          obtain ⟨d, i⟩ := p
          rintro ⟨g1, arr1, el1, lo1, hi1, g2, g3, g4, g5, g6⟩
          by_cases hd : d = c
          · subst hd
            rw [hh] at g2
            cases g2
            exact ⟨g1, arr, el, lo', hi', hthis', g3, g4, (by have := hlo' (by omega); omega), g6.mono hx⟩
          · exact ⟨g1, arr1, el1, lo1, hi1, (hother d hd).trans g2, g3, g4, g5, g6.mono hx⟩
      refine opSound_of_run (cv := .slice (some ⟨c, o', none⟩) n cap) (E' := { E with w := w' }) (.inl ?_) rfl rfl rfl hx hR' ((Rel.slI hs hf hn htt hr0 hc).mono hx) ⟨rfl, rfl, rfl, Nat.le_of_eq hsz.symm, fun k hk => hother k (by have := hf rfl; omega)⟩ (fun _ h _ => h)
      have hsh : E.w.shape? c = some (el, arr.size) := by
        unfold World.shape?
        rw [hh]
      rw [execOp, ho]
      simp [hcx, convert, run_underlying hu, run_underlying he, markStringish, hsh, w']

/-- Is a slice or a pointer nil? -/
def nilV (L : Heap) : V → Option Bool
  | .nilSl => some true
  | .slI _ (_ :: _) n _ => if n = 0 then none else some false
  | .slB b _ ver n => match hget L b with
    | some blk => if blk.ver = ver ∧ n ≠ 0 then some false else none
    | none => none
  | _ => none

/-- A slice that is not nil, against nil. -/
def nilCmp (P : Program) (L : Heap) (t : List V) (op : BinOp) (ty : TypeId) (x y : Operand) : Option Eff :=
  match P.underlying ty, evalV t x, evalV t y with
  | some (.slice _), some v, some .nilSl => match nilV L v, op with
    | some false, .eql => some (Eff.pure (.bool false))
    | some false, .neq => some (Eff.pure (.bool true))
    | _, _ => none
  | _, _, _ => none
theorem nilV_false (hR : HRel E) (hL : Sub L E) {v : V} {c : Value} (h : nilV L v = some false) (r : Rel E v c) : ∃ ad n cap, c = .slice (some ad) n cap := by
  unfold nilV at h
  split at h
  · cases h
  · cases r with
    | slI _ _ _ _ _ _ => exact ⟨_, _, _, rfl⟩
  · rename_i b off ver n
    split at h
    · rename_i blk hb
      split at h
      · rename_i hc
        obtain ⟨e, A, cap, _, _, _, rfl, hq⟩ := slB_at hR hL hb hc.1 r
        rcases hq with ⟨c', o', _, rfl, _⟩ | ⟨_, h0, _⟩
        · exact ⟨_, _, _, rfl⟩
        · exact absurd h0 hc.2
      · cases h
    · cases h
  · cases h
theorem equal_nil {ty e : TypeId} (hu : P.underlying ty = some (.slice e)) (ad : Addr) (n cap : Nat) (w : World) : (Op.equal ty (.slice (some ad) n cap) (.slice none 0 0)).run P w = .ok false w := by
  unfold Op.equal
  rw [show Op.maxDepth = 9999 + 1 from rfl, Op.equalIn]
  simp only [Sem.run_bind, run_underlying hu, Result.andThen_ok, Sem.run_pure]
theorem nilCmp_sound (hR : HRel E) (hL : Sub L E) (ht : RelL E t a.tmps.toList) {op : BinOp} {ty tz : TypeId} {x y : Operand} (ho : o.op = .binOp op ty x y tz) {eff : Eff} (h : nilCmp P L t op ty x y = some eff) : OpSound P E a o base eff := by
  unfold nilCmp at h
  split at h
  · rename_i e v hu hx hy
    have r2 := evalV_rel ht hy
    generalize hcy : a.eval y = cy at r2
    cases r2
    split at h
    · rename_i hn
      cases h
      obtain ⟨ad, n, cap, hc⟩ := nilV_false hR hL hn (evalV_rel ht hx)
      refine opSound_pure hR (cv := .bool false) ?_ (.bool _)
      rw [execOp, ho]
      have h1 : ∀ op, eqGuard op ty x y (.slice (some ad) n cap) (.slice none 0 0) = pure () := fun op => eqGuard_at_slice op _ _ _ _ _ _ _
      have h2 := equal_nil (P := P) hu ad n cap E.w
      simp only [hc, hcy, h1, binOp, Sem.run_bind, Sem.run_pure, Result.andThen_ok, h2, Bool.not_false]
    · rename_i hn
      cases h
      obtain ⟨ad, n, cap, hc⟩ := nilV_false hR hL hn (evalV_rel ht hx)
      refine opSound_pure hR (cv := .bool true) ?_ (.bool _)
      rw [execOp, ho]
      have h1 : ∀ op, eqGuard op ty x y (.slice (some ad) n cap) (.slice none 0 0) = pure () := fun op => eqGuard_at_slice op _ _ _ _ _ _ _
      have h2 := equal_nil (P := P) hu ad n cap E.w
      simp only [hc, hcy, h1, binOp, Sem.run_bind, Sem.run_pure, Result.andThen_ok, h2, Bool.not_false]
    · cases h
  · cases h

theorem cur_ptr (hR : HRel E) (hL : Sub L E) {p : V} {c : Value} (h : (ptrAdd L p 0).isSome = true) (r : Rel E p c) : ∃ ad, c = .pointer (some ad) := by
  cases hq : ptrAdd L p 0 with
  | none => rw [hq] at h; cases h
  | some v =>
    obtain ⟨ad, e1, _⟩ := ptrAdd_rel hR hL hq r
    exact ⟨ad, e1⟩

def builtinE (P : Program) (L : Heap) (base : Nat) (t : List V) (o : Oper) (b : Builtin) (args : List Operand) (ats : Array TypeId) : Option Eff :=
  match b, args, ats.toList with
  | .append, [x, y], [ty, tyx] => match P.underlying ty, P.underlying tyx, evalV t x, evalV t y with
    | some (.slice e), some d, some s, some v => appendV P L base e (isInt d) s v
    | _, _, _, _ => none
  | .copy, [x, y], ty :: _ => match P.underlying ty, evalV t x, evalV t y with
    | some (.slice e), some d, some v => copyV P L e d v
    | _, _, _ => none
  | .clear, [x], ty :: _ => match P.underlying ty, evalV t x with
    | some (.slice e), some d => clearV P L e d
    | _, _ => none
  | .len, [x], [ty] => match P.underlying ty, evalV t x with
    | some (.slice e), some v => match v with
      | .str _ => none
      | _ => (lenV L v).map fun n : Nat => Eff.pure (.int .i64 (n : Int))
    | _, _ => pureOp P t o
  | _, _, _ => pureOp P t o

def opS (P : Program) (call : CallF) (L : Heap) (base : Nat) (t : List V) (o : Oper) : Option Eff :=
  match o.op with
  | .move x => (evalV t x).map Eff.pure
  | .assign x => (evalV t x).map Eff.pure
  | .pick c x y => match evalV t c, evalV t x, evalV t y with
    | some (.bool b), some x, some y => some (Eff.pure (if b then x else y))
    | _, _, _ => none
  | .alloc ty => match zeroV P ty with
    | some z => some ⟨.ptrB base 0 0, [], [⟨z, 0, 0, false⟩]⟩
    | none => none
  | .box ty x => match evalV t x with
    | some v => if v.cells.all V.one = true then some ⟨.ptrB base 0 0, [], [⟨v.cells, 0, 0, false⟩]⟩ else none
    | none => none
  | .build ty parts => (buildV P t ty parts).map Eff.pure
  | .buildSlice ty len parts => buildSliceV P t ty len parts
  | .load ty x => match evalV t x with
    | some p => (loadV P L ty p).map Eff.pure
    | none => none
  | .store ty x y => match evalV t x, evalV t y with
    | some p, some v => storeV P L ty p v
    | _, _ => none
  | .nilCheck x => match evalV t x with
    | some p => if (ptrAdd L p 0).isSome = true then some (Eff.pure p) else none
    | none => none
  | .convert src dst x => match P.underlying src, P.underlying dst, evalV t x with
    | some (.slice e), some .string, some v => match P.underlying e, v with
      | _, .str _ => none
      | some (.int .u8), v => match rowOf L 1 v with
        | some (cs, _) => (bytesN cs).map fun ns => Eff.pure (.str (strOfNums ns))
        | none => none
      | _, _ => none
    | some .string, some (.slice e), some (.str s) => match P.underlying e with
      | some (.int .u8) => some ⟨.slB base 0 0 s.size, [], [⟨s.data.toList.map (fun b => V.int .u8 b.toNat), 1, 0, false⟩]⟩
      | _ => none
    | some (.slice e), some (.slice _), some (.slI true (v :: cs) n tight) => match P.underlying e with
      | some (.int .u8) => if src = dst then some (Eff.pure (.slI true (v :: cs) n tight)) else none
      | _ => none
    | _, _, _ => pureOp P t o
  | .makeInterface ty x => match P.underlying ty, evalV t x with
    | some (.interface _), _ => none
    | some _, some v => some (Eff.pure (.iface ty v))
    | _, _ => none
  | .makeFunc fn first captured => match evalL t first.toList, evalL t captured.toList with
    | some f, some c => some (Eff.pure (.func fn f c))
    | _, _ => none
  | .makeSlice ty x y => match P.underlying ty, evalV t x, evalV t y with
    | some (.slice e), some (.int _ l), some (.int _ c) => match zeroV P e, P.info? e with
      | some z, some i => if 0 ≤ l ∧ l ≤ c ∧ c ≤ 1099511627776 ∧ i.bytes ≤ 256 then some ⟨.slB base 0 0 l.toNat, [], [⟨zerosV z l.toNat, z.length, 0, false⟩]⟩ else none
      | _, _ => none
    | _, _, _ => none
  | .slice ty x lo hi mx => match P.underlying ty, evalV t x, optV t lo, optV t hi, optV t mx with
    | some (.slice e), some s, some l, some h, some m => match tySz P e with
      | some (_, k) => (cutV L k s l h m).map Eff.pure
      | none => none
    | _, _, _, _, _ => none
  | .fieldAddr s x f => match evalV t x, fieldOff P s f with
    | some p, some (off, _) => (ptrAdd L p off).map Eff.pure
    | _, _ => none
  | .field s x f => match P.underlying s, evalV t x with
    | some (.struct fs), some (.agg cs) => match fs[f]? with
      | some fl => (partV P fl.type cs fl.offset).map Eff.pure
      | none => none
    | _, _ => none
  | .indexAddr s x y => match evalV t x, evalV t y with
    | some p, some (.int _ i) => (idxAddr P L s p i).map Eff.pure
    | _, _ => none
  | .index s x y => match P.underlying s, evalV t x, evalV t y with
    | some (.array n e), some (.agg cs), some (.int _ i) => match tySz P e with
      | some (_, k) => if 0 ≤ i ∧ i < n then (partV P e cs (i.toNat * k)).map Eff.pure else none
      | none => none
    | _, _, _ => pureOp P t o
  | .extract x i => match evalV t x with
    | some (.tup vs) => (vs[i]?).map Eff.pure
    | _ => none
  | .call c => match c.callee with
    | .builtin b => builtinE P L base t o b c.args.toList c.argTypes
    | _ => match resolveV P t c with
      | some (f, vs) => callE call L base f vs
      | none => none
  | .binOp op ty x y _ => match nilCmp P L t op ty x y with
    | some e => some e
    | none => pureOp P t o
  | _ => pureOp P t o

theorem builtinE_sound (hR : HRel E) (hL : Sub L E) (ht : RelL E t a.tmps.toList) {c : Call} (ho : o.op = .call c) {b : Builtin} (hb : c.callee = .builtin b) {eff : Eff}
    (h : builtinE P L base t o b c.args.toList c.argTypes = some eff) (hfresh : ∀ b, base ≤ b → b < base + eff.new.length → E.ρ b = none) : OpSound P E a o base eff := by
  obtain ⟨cal, args, ats⟩ := c
  simp only at hb h
  subst hb
  unfold builtinE at h
  split at h
  · rename_i x y ty tyx ha hat
    obtain rfl : args = #[x, y] := by apply Array.ext'; exact ha
    obtain rfl : ats = #[ty, tyx] := by apply Array.ext'; exact hat
    split at h
    · rename_i e d s v hu hux hx hy
      exact append_sound hR hL ht ho hu hux hx hy h hfresh
    · cases h
  · rename_i x y ty tys ha hat
    obtain rfl : args = #[x, y] := by apply Array.ext'; exact ha
    split at h
    · rename_i e d v hu hx hy
      have h0 : ats[0]? = some ty := by rw [← Array.getElem?_toList, hat]; rfl
      exact copy_sound hR hL ht ho h0 hu hx hy h
    · cases h
  · rename_i x ty tys ha hat
    obtain rfl : args = #[x] := by apply Array.ext'; exact ha
    split at h
    · rename_i e d hu hx
      have h0 : ats[0]? = some ty := by rw [← Array.getElem?_toList, hat]; rfl
      exact clear_sound hR hL ht ho h0 hu hx h
    · cases h
  · rename_i x ty ha hat
    obtain rfl : args = #[x] := by apply Array.ext'; exact ha
    obtain rfl : ats = #[ty] := by apply Array.ext'; exact hat
    split at h
    · rename_i e v hu hx
      split at h
      · cases h
      · rename_i hns
        obtain ⟨n, h1, h2⟩ := map_some h
        subst h2
        exact len_sound hR hL ht ho hu hx h1 (fun s q => hns s q)
    · exact pureOp_sound hR ht h
  · exact pureOp_sound hR ht h

theorem opS_sound {call : CallF} (hc : CallOK P call) (hR : HRel E) (hL : Sub L E) (ht : RelL E t a.tmps.toList) {eff : Eff}
    (h : opS P call L base t o = some eff) (hfresh : ∀ b, base ≤ b → b < base + eff.new.length → E.ρ b = none) : OpSound P E a o base eff := by
  unfold opS at h
  split at h
  case h_1 x ho =>
    obtain ⟨v, h1, rfl⟩ := map_some h
    exact opSound_pure hR (by rw [execOp, ho]; rfl) (evalV_rel ht h1)
  case h_2 x ho =>
    obtain ⟨v, h1, rfl⟩ := map_some h
    exact opSound_pure hR (by rw [execOp, ho]; rfl) (evalV_rel ht h1)
  case h_3 c x y ho =>
    split at h
    · rename_i b v1 v2 h1 h2 h3
      cases h
      have r := evalV_rel ht h1
      generalize hcx : a.eval c = cx at r
      cases r
      cases b
      · exact opSound_pure hR (by rw [execOp, ho]; simp [hcx, asBool]) (evalV_rel ht h3)
      · exact opSound_pure hR (by rw [execOp, ho]; simp [hcx, asBool]) (evalV_rel ht h2)
    · cases h
  case h_4 ty ho =>
    split at h
    · rename_i z hz
      cases h
      exact alloc_sound hR ho hz (hfresh base (Nat.le_refl _) (by simp))
    · cases h
  case h_5 ty x ho =>
    split at h
    · rename_i v hv
      split at h
      · rename_i h1
        cases h
        exact box_sound hR ht ho hv h1 (hfresh base (Nat.le_refl _) (by simp))
      · cases h
    · cases h
  case h_6 ty parts ho =>
    obtain ⟨v, h1, rfl⟩ := map_some h
    exact build_sound hR ht ho h1
  case h_7 ty len parts ho => exact buildSlice_sound hR ht ho h
  case h_8 ty x ho =>
    split at h
    · rename_i p hp
      obtain ⟨v, h1, rfl⟩ := map_some h
      exact load_sound hR hL ht ho hp h1
    · cases h
  case h_9 ty x y ho =>
    split at h
    · rename_i p v hp hv
      exact store_sound hR hL ht ho hp hv h
    · cases h
  case h_10 x ho =>
    split at h
    · rename_i p hp
      split at h
      · rename_i hq
        cases h
        obtain ⟨ad, e1⟩ := cur_ptr hR hL hq (evalV_rel ht hp)
        exact opSound_pure hR (by rw [execOp, ho]; simp [e1]; rfl) (by rw [← e1]; exact evalV_rel ht hp)
      · cases h
    · cases h
  case h_11 src dst x ho =>
    split at h
    · rename_i e v hs hd hx
      split at h
      · cases h
      · rename_i v' he hns
        split at h
        · rename_i cs n hrow
          obtain ⟨ns, h1, rfl⟩ := map_some h
          exact toStr_sound hR hL ht ho hs he hd hx (fun s q => hns s q) hrow h1
        · cases h
      · cases h
    · rename_i e s hs hd hx
      split at h
      · rename_i he
        cases h
        exact ofStr_sound hR ht ho hs he hd hx (hfresh base (Nat.le_refl _) (by simp))
      · cases h
    · rename_i e e' v cs n tight hs hd hx
      split at h
      · rename_i he
        split at h
        · rename_i hsd
          subst hsd
          cases h
          exact mark_sound hR ht ho hs he hx
        · cases h
      · cases h
    · exact pureOp_sound hR ht h
  case h_12 ty x ho =>
    split at h
    · cases h
    · rename_i d v hd hu hx
      cases h
      refine opSound_pure hR (cv := .iface ty (a.eval x)) ?_ (.iface ty (evalV_rel ht hx))
      rw [execOp, ho]
      cases d <;> first | exact absurd rfl (hd _) | simp [Instr.makeInterface, run_underlying hu]
    · cases h
  case h_13 fn first captured ho =>
    split at h
    · rename_i f c h1 h2
      cases h
      refine opSound_pure hR (cv := .func fn (first.map a.eval) (captured.map a.eval)) ?_ ?_
      · rw [execOp, ho]
        simp [Instr.makeFunc]
      · have e1 : (first.toList.map a.eval).toArray = first.map a.eval := by apply Array.ext'; simp
        have e2 : (captured.toList.map a.eval).toArray = captured.map a.eval := by apply Array.ext'; simp
        have := Rel.func fn (evalL_rel ht h1) (evalL_rel ht h2)
        rwa [e1, e2] at this
    · cases h
  case h_14 ty x y ho =>
    split at h
    · rename_i e kl l kc c hu hx hy
      split at h
      · rename_i z i hz hi
        split at h
        · rename_i hcond
          cases h
          exact makeSlice_sound hR ht ho hx hy hu hz hi hcond.1 hcond.2.1 hcond.2.2.1 hcond.2.2.2 (hfresh base (Nat.le_refl _) (by simp))
        · cases h
      · cases h
    · cases h
  case h_15 ty x lo hi mx ho =>
    split at h
    · rename_i e s l hh m hu hx hl hh' hm
      split at h
      · rename_i g k hz
        obtain ⟨v, h1, rfl⟩ := map_some h
        exact cut_sound hR hL ht ho hu hz hx hl hh' hm h1
      · cases h
    · cases h
  case h_16 s x f ho =>
    split at h
    · rename_i p off ft hp hf
      obtain ⟨v, h1, rfl⟩ := map_some h
      exact fieldAddr_sound hR hL ht ho hp hf h1
    · cases h
  case h_17 s x f ho =>
    split at h
    · rename_i fs cs hu hx
      split at h
      · rename_i fl hf
        obtain ⟨v, h1, rfl⟩ := map_some h
        exact field_sound hR ht ho hu hf hx h1
      · cases h
    · cases h
  case h_18 s x y ho =>
    split at h
    · rename_i p k i hp hi
      obtain ⟨v, h1, rfl⟩ := map_some h
      exact idxAddr_sound hR hL ht ho hp hi h1
    · cases h
  case h_19 s x y ho =>
    split at h
    · rename_i n e cs kk i hu hx hy
      split at h
      · rename_i g k hz
        split at h
        · rename_i hcond
          obtain ⟨v, h1, rfl⟩ := map_some h
          exact index_sound hR ht ho hu hz hx hy hcond.1 hcond.2 h1
        · cases h
      · cases h
    · exact pureOp_sound hR ht h
  case h_20 x i ho =>
    split at h
    · rename_i vs hx
      obtain ⟨v, h1, rfl⟩ := map_some h
      have r := evalV_rel ht hx
      generalize hcx : a.eval x = cx at r
      cases r with
      | tup s =>
        obtain ⟨y, g1, g2⟩ := s.get i v h1
        refine opSound_pure hR (cv := y) ?_ g2
        rw [execOp, ho]
        simp [hcx, Instr.extract, g1]
    · cases h
  case h_21 c ho =>
    split at h
    · rename_i b hb
      exact builtinE_sound hR hL ht ho hb h hfresh
    · split at h
      · rename_i f vs hres
        exact call_sound hc hR hL ht ho hres h hfresh
      · cases h
  case h_22 op ty x y tz ho =>
    split at h
    · rename_i e he
      cases h
      exact nilCmp_sound hR hL ht ho he
    · exact pureOp_sound hR ht h
  case h_23 => exact pureOp_sound hR ht h
end
end
end Go.Proofs.Ytifgifhbefhkmaa.VM
