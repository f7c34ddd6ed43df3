/- The machine of values: conversions, parts. No conditions. -/
import Derived.Test.YtifgifhbefhkmaaVMl
import Derived.Laws.IdiomStrings
import Derived.Laws.BytesArg
import Derived.Laws.Tables
namespace Go.Proofs.Ytifgifhbefhkmaa.VM
set_option linter.unusedSimpArgs false
set_option linter.unusedVariables false
open Go Go.RowKit
noncomputable section

def bytesN : List V → Option (List Int)
  | [] => some []
  | .int .u8 n :: r => (bytesN r).map (n :: ·)
  | _ :: _ => none
section
variable {P : Program} {E : Env} {a : Act} {o : Oper} {base : Nat} {t : List V} {L : Heap}

theorem bytesN_rel : ∀ {cs : List V} {ns : List Int} {cvs : List Value}, bytesN cs = some ns → RelL E cs cvs → cvs = ns.map (Value.int .u8)
  | _, ns, _, h, .nil => by cases h; rfl
  | v :: cs, ns, c :: cvs, h, .cons r s => by
    cases r <;> try (simp only [bytesN] at h; cases h)
    rename_i k n
    cases k <;> simp only [bytesN] at h <;> try cases h
    cases hb : bytesN cs with
    | none => simp [hb] at h
    | some ms =>
      simp [hb] at h
      subst h
      rw [bytesN_rel hb s]
      rfl

theorem toStr_sound (hR : HRel E) (hL : Sub L E) (ht : RelL E t a.tmps.toList) {src dst e : TypeId} {x : Operand} (ho : o.op = .convert src dst x) (hs : P.underlying src = some (.slice e)) (he : P.underlying e = some (.int .u8))
    (hd : P.underlying dst = some .string) {v : V} (hx : evalV t x = some v) (hns : ∀ s, v ≠ .str s) {cs : List V} {n : Nat} (hrow : rowOf L 1 v = some (cs, n)) {ns : List Int} (hb : bytesN cs = some ns) :
    OpSound P E a o base (Eff.pure (.str (strOfNums ns))) := by
  have r := evalV_rel ht hx
  obtain ⟨cvs, r1, r2, r3, r4⟩ := rowOf_rel (P := P) hR hL hrow r
  have hcv := bytesN_rel hb r1
  have hl4 := r4 n (Nat.le_refl _)
  have hnl := r1.length
  rw [List.take_of_length_le (by omega), hcv] at hl4
  have hlen : ns.length = n := by
    rw [hcv] at hnl
    simp at hnl
    omega
  have key : ∀ {A : Option Addr} {n' cap : Nat}, a.eval x = .slice A n' cap → OpSound P E a o base (Eff.pure (.str (strOfNums ns))) := by
    intro A n' cap hxx
    have hn' : n' = n := by
      have := r3 E.w
      rw [hxx] at this
      simpa [Builtin.lenOf] using this
    subst hn'
    refine opSound_pure hR (cv := .string (strOfNums ns)) ?_ (.str _)
    rw [execOp, ho]
    rw [hxx] at hl4
    cases A with
    | none =>
      simp only [Builtin.firstCells, Sem.run_pure, Result.ok.injEq, and_true] at hl4
      have h0 : ns = [] := by
        have := congrArg Array.size hl4
        simp at this
        exact List.length_eq_zero_iff.1 this.symm
      subst h0
      simp [hxx, run_convert_bytes_nil E.w src e hs he n' cap dst hd]
      rfl
    | some ad =>
      simp only [Builtin.firstCells, Nat.mul_one] at hl4
      have := run_bytesToString E.w ad n' cap ns hl4
      rw [foldl_push_bytes] at this
      simp [hxx, run_convert_bytes_string E.w src dst e (some ad) n' cap hs he hd, this]
      simp [strOfNums, ByteArray.empty, ByteArray.emptyWithCapacity]
  generalize hcx : a.eval x = cx at r
  cases r <;> simp only [rowOf] at hrow <;> first | exact key hcx | (cases hrow; done) | skip
  exact absurd rfl (hns _)


theorem ofStr_sound (hR : HRel E) (ht : RelL E t a.tmps.toList) {src dst e : TypeId} {x : Operand} (ho : o.op = .convert src dst x) (hs : P.underlying src = some .string) (he : P.underlying e = some (.int .u8))
    (hd : P.underlying dst = some (.slice e)) {s : ByteArray} (hx : evalV t x = some (.str s)) (hfresh : E.ρ base = none) :
    OpSound P E a o base ⟨.slB base 0 0 s.size, [], [⟨s.data.toList.map (fun b => V.int .u8 b.toNat), 1, 0, false⟩]⟩ := by
  have r := evalV_rel ht hx
  generalize hcx : a.eval x = cx at r
  cases r
  have hrun := run_bytes_of_string E.w src dst e s hs hd he
  have hcap : s.size ≤ grownCap E.w s.size 0 e := by simp [grownCap, Question.cut]
  generalize hg : grownCap E.w s.size 0 e = cap at hrun hcap
  have hbr : (bytesRow s cap).toList = s.data.toList.map (fun b => Value.int .u8 b.toNat) ++ List.replicate (cap - s.size) (.int .u8 0) := by simp [bytesRow]
  have hsz : (bytesRow s cap).size = cap := by
    have := congrArg List.length hbr
    have hss : s.data.toList.length = s.size := rfl
    simp only [List.length_append, List.length_map, List.length_replicate, Array.length_toList, hss] at this
    omega
  have hss : (s.data.toList.map (fun b => V.int .u8 b.toNat)).length = s.size := by rw [List.length_map]; rfl
  have hss' : (s.data.toList.map (fun b => Value.int .u8 b.toNat)).length = s.size := by rw [List.length_map]; rfl
  refine opSound_new (arr := bytesRow s cap) (el := e) (lo := (bytesRow s cap).size) (hi := (bytesRow s cap).size + 1) (cv := .slice (some ⟨E.w.heap.size, 0, none⟩) s.size cap) hR (w' := E.w.drew.alloc (.cells (bytesRow s cap) e ((bytesRow s cap).size, (bytesRow s cap).size + 1))) ?_ rfl rfl rfl rfl hfresh (.inr (Nat.le_refl _)) (by rw [hss, hsz]; exact hcap) ?_ ?_
  · rw [execOp, ho]
    simp [hcx, hrun]
  · rw [hbr, hss, List.take_left' hss']
    refine RelL.of_get (by simp) fun i p q hp hq => ?_
    simp only [List.getElem?_map] at hp hq
    cases hb : s.data.toList[i]? with
    | none => simp [hb] at hp
    | some b => simp [hb] at hp hq; subst hp; subst hq; exact .int _ _
  · refine .slB (e := ⟨some (E.w.heap.size, 0), 1, 0, (bytesRow s cap).size⟩) (by simp [updF]) (Nat.le_refl _) (fun _ => ⟨rfl, .inl ⟨_, _, rfl, rfl, hcap, by simp [hsz]⟩⟩)

/-- A part of a value. -/
theorem part_rel {ty : TypeId} {cs : List V} {cvs : List Value} {off : Nat} {v : V} (h : partV P ty cs off = some v) (r : RelL E cs cvs) :
    ∃ c, (∀ w, (part ty cvs.toArray off).run P w = .ok c w) ∧ Rel E v c := by
  unfold partV at h
  split at h
  · rename_i n hz
    obtain ⟨h1, h2⟩ := tySz_run hz
    cases h
    refine ⟨.agg ((cvs.drop off).take n).toArray, fun w => ?_, .agg ((r.drop off).take n)⟩
    simp only [part, Sem.run_bind, h1, h2, Result.andThen_ok, if_true, Sem.run_pure]
    congr 2
    apply Array.ext'
    simp [List.extract_eq_take_drop]
  · rename_i n hz
    obtain ⟨h1, h2⟩ := tySz_run hz
    obtain ⟨y, g1, g2⟩ := r.get off v h
    refine ⟨y, fun w => ?_, g2⟩
    have : cvs.toArray[off]? = some y := by simpa using g1
    simp only [part, Sem.run_bind, h1, Result.andThen_ok, Bool.false_eq_true, if_false, this, Sem.run_pure]
  · cases h

theorem field_sound (hR : HRel E) (ht : RelL E t a.tmps.toList) {s : TypeId} {x : Operand} {f : Nat} (ho : o.op = .field s x f) {fs : Array Field} {fl : Field} (hu : P.underlying s = some (.struct fs)) (hf : fs[f]? = some fl)
    {cs : List V} (hx : evalV t x = some (.agg cs)) {v : V} (hv : partV P fl.type cs fl.offset = some v) : OpSound P E a o base (Eff.pure v) := by
  have r := evalV_rel ht hx
  generalize hcx : a.eval x = cx at r
  cases r with
  | agg s =>
    obtain ⟨c, h1, h2⟩ := part_rel hv s
    refine opSound_pure hR (cv := c) ?_ h2
    rw [execOp, ho]
    simp [hcx, Instr.field, run_underlying hu, hf, asAgg, h1]

theorem index_sound (hR : HRel E) (ht : RelL E t a.tmps.toList) {s e : TypeId} {n : Nat} {x y : Operand} (ho : o.op = .index s x y) (hu : P.underlying s = some (.array n e)) {g : Bool} {k : Nat} (hz : tySz P e = some (g, k))
    {cs : List V} (hx : evalV t x = some (.agg cs)) {kk : IntKind} {i : Int} (hy : evalV t y = some (.int kk i)) (h0 : 0 ≤ i) (h1 : i < n) {v : V} (hv : partV P e cs (i.toNat * k) = some v) : OpSound P E a o base (Eff.pure v) := by
  obtain ⟨_, hsz⟩ := tySz_run hz
  have r := evalV_rel ht hx
  have ry := evalV_rel ht hy
  generalize hcx : a.eval x = cx at r
  generalize hcy : a.eval y = cy at ry
  cases ry
  cases r with
  | agg s =>
    obtain ⟨c, g1, g2⟩ := part_rel hv s
    refine opSound_pure hR (cv := c) ?_ g2
    rw [execOp, ho]
    simp [hcx, hcy, Instr.index, asIntOf, run_underlying hu, h0, h1, hsz, g1]

/-- The value of a struct or array by its parts. -/
def buildV (P : Program) (t : List V) (ty : TypeId) (parts : Array (Nat × Operand)) : Option V :=
  match zeroV P ty, evalParts t parts.toList, P.underlying ty with
  | some z, some vs, some (.struct fields) =>
    match fields.toList.mapM (fun f => (P.info? f.type).map fun i => (f.offset, i.size)) with
    | some places => (fillV (places.toArray[·]?) z vs).map .agg
    | none => none
  | some z, some vs, some (.array _ e) =>
    match P.info? e with
    | some i => (fillV (fun j => some (j * i.size, i.size)) z vs).map .agg
    | none => none
  | _, _, _ => none
theorem build_sound (hR : HRel E) (ht : RelL E t a.tmps.toList) {ty : TypeId} {parts : Array (Nat × Operand)} (ho : o.op = .build ty parts) {v : V} (h : buildV P t ty parts = some v) : OpSound P E a o base (Eff.pure v) := by
  unfold buildV at h
  have zeroInfo : ∀ {z : List V}, zeroV P ty = some z → ∃ it zv, P.info? ty = some it ∧ it.zero = some zv ∧ RelL E z zv.cells.toList := by
    intro z hz
    obtain ⟨zv', n, g1, g2, _⟩ := zeroV_run hz
    unfold zeroV at hz
    split at hz
    · rename_i it hit
      split at hz
      · rename_i zv hzv
        refine ⟨it, zv, hit, hzv, ?_⟩
        have : zv' = zv := by
          have := g1 E.w
          simp [zeroValue, typeInfo, hit, hzv] at this
          exact this.symm
        subst this
        exact g2 E
      · cases hz
    · cases hz
  split at h
  · rename_i z vs fields hz hvs hu
    obtain ⟨it, zv, hit, hzv, hr⟩ := zeroInfo hz
    split at h
    · rename_i places hp
      cases hf : fillV (places.toArray[·]?) z vs with
      | none => rw [hf] at h; cases h
      | some out =>
        rw [hf] at h
        simp only [Option.map_some, Option.some.injEq] at h
        subst h
        obtain ⟨arr, k1, k2⟩ := fill_rel (evalParts_rel ht hvs) hr hf
        have hb : P.built ty (parts.map fun (i, x) => (i, a.eval x)).toList = some arr := by
          simp only [Program.built, hit, hu, hzv, hp]
          have hpl : (parts.map fun (i, x) => (i, a.eval x)).toList = parts.toList.map fun (i, x) => (i, a.eval x) := by simp
          rw [hpl]
          exact k1
        refine opSound_pure hR (cv := .agg arr) ?_ (by have := Rel.agg k2; simpa using this)
        rw [execOp, ho]
        have := run_build (P := P) E.w ty (parts.map fun (i, x) => (i, a.eval x)) arr hb
        simp only [Sem.run_bind, this, Result.andThen_ok, Sem.run_pure]
    · cases h
  · rename_i z vs n e hz hvs hu
    obtain ⟨it, zv, hit, hzv, hr⟩ := zeroInfo hz
    split at h
    · rename_i i hi
      cases hf : fillV (fun j => some (j * i.size, i.size)) z vs with
      | none => rw [hf] at h; cases h
      | some out =>
        rw [hf] at h
        simp only [Option.map_some, Option.some.injEq] at h
        subst h
        obtain ⟨arr, k1, k2⟩ := fill_rel (evalParts_rel ht hvs) hr hf
        have hb : P.built ty (parts.map fun (i, x) => (i, a.eval x)).toList = some arr := by
          simp only [Program.built, hit, hu, hzv, hi]
          have hpl : (parts.map fun (i, x) => (i, a.eval x)).toList = parts.toList.map fun (i, x) => (i, a.eval x) := by simp
          rw [hpl]
          exact k1
        refine opSound_pure hR (cv := .agg arr) ?_ (by have := Rel.agg k2; simpa using this)
        rw [execOp, ho]
        have := run_build (P := P) E.w ty (parts.map fun (i, x) => (i, a.eval x)) arr hb
        simp only [Sem.run_bind, this, Result.andThen_ok, Sem.run_pure]
    · cases h
  · cases h
end
end
end Go.Proofs.Ytifgifhbefhkmaa.VM
