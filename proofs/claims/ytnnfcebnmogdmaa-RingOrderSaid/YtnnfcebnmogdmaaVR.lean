/- The machine of values: ring.List, a contract. No conditions. -/
import Derived.Test.YtnnfcebnmogdmaaV2
import Derived.Test.YtnnfcebnmogdmaaRingWalkB
import Derived.KernelRfl
import Derived.Laws.CopyOwn
/- The machine of values: ring.List, a contract. No conditions. -/
namespace Go.Proofs.Ytnnfcebnmogdmaa.VM
set_option linter.unusedSimpArgs false
set_option linter.unusedVariables false
open Go Go.RowKit
open Go.Proofs.YtnnfcebnmogdmaaW.PrintWords (Kd encs Reps ReadsRow OwnRow)
noncomputable section

def u8s : List V → Option (List Int)
  | [] => some []
  | .int .u8 x :: r => (u8s r).map (x :: ·)
  | _ :: _ => none
def itemI : V → Option (List Int)
  | .nilSl => some []
  | .slI _ cs n _ => if n ≤ cs.length ∧ n < 140737488355328 then u8s (cs.take n) else none
  | _ => none
def itemsI : V → Option (List (List Int))
  | .slI _ cs n _ => if n ≤ cs.length ∧ 1 ≤ n ∧ n ≤ 64 then mapO itemI (cs.take n) else none
  | _ => none
def rowI (x : List Int) : V := .slI true (x.map (V.int .u8)) x.length false
def rowsI (l : List (List Int)) : V := .slI true (l.map rowI) l.length false

theorem u8s_rel {E : Env} : ∀ {cs : List V} {x : List Int} {cvs : List Value}, u8s cs = some x → RelL E cs cvs → cvs = x.map (Value.int .u8)
  | [], x, cvs, h, r => by cases h; cases r; rfl
  | c :: cs, x, cvs, h, r => by
    cases r with
    | cons r s =>
      unfold u8s at h
      split at h
      · rename_i heq; cases heq
      · rename_i y r' heq
        cases heq
        obtain ⟨ys, h1, rfl⟩ := map_some h
        cases r
        rw [u8s_rel h1 s]
        rfl
      · cases h
abbrev Ew (w : World) (B : Nat) (O : Nat → Prop) : Env := ⟨w, fun _ => none, fun _ => none, B, O⟩
theorem item_C {w : World} {B : Nat} {O : Nat → Prop} {v : V} {cv : Value} {x : List Int} (h : itemI v = some x) (r : Rel (Ew w B O) v cv) :
    x.length < 140737488355328 ∧ ∃ A c, cv = .slice A x.length c ∧ x.length ≤ c ∧ (Kd.int .u8).C w A x.length x := by
  unfold itemI at h
  split at h
  · cases h
    cases r
    exact ⟨by simp, none, 0, rfl, Nat.le_refl _, rfl, by simp, fun q => absurd q (by simp)⟩
  · rename_i fr cs n tight
    split at h
    · rename_i hn
      cases r with
      | slI0 ht =>
        cases h
        exact ⟨by simp, _, _, rfl, Nat.zero_le _, rfl, by simp, fun q => absurd q (by simp)⟩
      | slI hs hf hnc ht hr hc =>
        rename_i cvs cap c o
        have hx := u8s_rel h (hr.take n)
        have hl := congrArg List.length hx
        have hrl := hr.length
        simp only [List.length_take, List.length_map] at hl
        have hxn : x.length = n := by omega
        subst hxn
        refine ⟨hn.2, _, _, rfl, hnc, rfl, by omega, fun _ => ⟨_, rfl, fun j p hj => ⟨[.int .u8 p], rfl, rfl, fun i u hu => ?_⟩⟩⟩
        cases i with
        | succ i => simp at hu
        | zero =>
          simp at hu
          subst hu
          have h1 : (cvs.take x.length)[j]? = some (.int .u8 p) := by rw [hx, List.getElem?_map, hj]; rfl
          rw [List.getElem?_take] at h1
          split at h1
          · have := hc j _ h1
            rw [Addr.add_lit]
            have e1 : j * (Kd.int .u8).sz + 0 = j := by show j * 1 + 0 = j; omega
            rw [e1]
            exact this
          · cases h1
    · cases h
  · cases h
abbrev dB : Kd (List Int) := Kd.slice 5 (Kd.int .u8)
theorem items_C {w : World} {B : Nat} {O : Nat → Prop} {v : V} {cv : Value} {l : List (List Int)} (h : itemsI v = some l) (r : Rel (Ew w B O) v cv) :
    1 ≤ l.length ∧ l.length ≤ 64 ∧ (∀ x ∈ l, x.length < 140737488355328) ∧ ∃ ad c, cv = .slice (some ad) l.length c ∧ l.length ≤ c ∧ dB.C w (some ad) l.length l := by
  unfold itemsI at h
  split at h
  · rename_i fr cs n tight
    split at h
    · rename_i hn
      obtain ⟨g1, g2⟩ := mapO_at h
      have hl : l.length = n := by rw [g1, List.length_take]; omega
      subst hl
      have hne : l.length ≠ 0 := by omega
      generalize hnl : l.length = nl at r hne
      cases r with
      | slI0 ht => exact absurd rfl hne
      | slI hs hf hnc ht hr hc =>
        subst hnl
        rename_i cvs cap c o
        have key : ∀ (j : Nat) (x : List Int), l[j]? = some x → ∃ v cv, cs[j]? = some v ∧ cvs[j]? = some cv ∧ itemI v = some x ∧ Rel (Ew w B O) v cv := by
          intro j x hj
          have hjl : j < l.length := by
            rcases Nat.lt_or_ge j l.length with q | q
            · exact q
            · simp [List.getElem?_eq_none q] at hj
          have hjc : j < cs.length := by omega
          have h1 := g2 j cs[j] (by rw [List.getElem?_take, if_pos hjl]; exact List.getElem?_eq_getElem hjc)
          rw [hj] at h1
          obtain ⟨y, h2, h3⟩ := hr.get j cs[j] (List.getElem?_eq_getElem hjc)
          exact ⟨cs[j], y, List.getElem?_eq_getElem hjc, h2, h1.symm, h3⟩
        refine ⟨hn.2.1, hn.2.2, fun x hx => ?_, _, _, rfl, hnc, rfl, by omega, fun _ => ⟨_, rfl, fun j p hj => ?_⟩⟩
        · obtain ⟨j, hj⟩ := List.getElem?_of_mem hx
          obtain ⟨v, cv, h1, h2, h3, h4⟩ := key j x hj
          exact (item_C h3 h4).1
        · obtain ⟨v, cv, h1, h2, h3, h4⟩ := key j p hj
          obtain ⟨_, A, c', rfl, h5, h6⟩ := item_C h3 h4
          refine ⟨[.slice A p.length c'], rfl, ⟨A, c', rfl, h5, h6⟩, fun i u hu => ?_⟩
          cases i with
          | succ i => simp at hu
          | zero =>
            simp at hu
            subst hu
            have := hc j _ h2
            rw [Addr.add_lit]
            have e1 : j * dB.sz + 0 = j := by show j * 1 + 0 = j; omega
            rw [e1]
            exact this
    · cases h
  · cases h

theorem own_rel {w : World} {B base : Nat} {O : Nat → Prop} (hB : B ≤ base) {e n : Nat} {v : Value} {inner : List Value} (ho : w.ownsRow base e 1 v n inner) {cs : List V} (hr : RelL (Ew w B O) cs inner) : Rel (Ew w B O) (.slI true cs n false) v := by
  obtain ⟨h1, h2⟩ := ho
  have hl := hr.length
  rcases h2 with ⟨rfl, rfl⟩ | ⟨g, cap, cur, rfl, hg, hh, hn, _, hsz, htk⟩
  · cases hr with
    | nil => exact .slI0 fun q => by cases q
    | cons _ _ => simp at h1
  · refine .slI ⟨?_, fun q => ?_, fun b blk e o q => by cases q⟩ (fun _ => Nat.le_trans hB hg) hn (fun q => by cases q) hr fun i u hu => ?_
    · rcases Nat.lt_or_ge g w.heap.size with q | q
      · exact q
      · simp [Array.getElem?_eq_none q] at hh
    · have q' : g < B := q
      omega
    · show w.cell? ⟨g, 0 + i, none⟩ = some u
      rw [Nat.zero_add, cell_at hh, ← Array.getElem?_toList]
      rw [← htk, List.getElem?_take] at hu
      split at hu
      · exact hu
      · cases hu
theorem R_rel {w : World} {B base : Nat} {O : Nat → Prop} (hB : B ≤ base) {e : Nat} {ok : Nat → Prop} {v : Value} {x : List Int} (h : (Kd.int .u8).R e w base ok v x) : Rel (Ew w B O) (rowI x) v := by
  refine own_rel hB (Kd.own_of_R h) (RelL.of_get (by simp [encs]) fun i a b ha hb => ?_)
  simp only [encs, List.getElem?_map] at ha hb
  cases hx : x[i]? with
  | none => simp [hx] at ha
  | some y =>
    simp [hx] at ha hb
    subst ha hb
    exact .int _ _
theorem S_rel {w : World} {B base : Nat} {O : Nat → Prop} (hB : B ≤ base) {e : Nat} {ok : Nat → Prop} {v : Value} {l : List (List Int)} (h : dB.S e w base ok v l) : Rel (Ew w B O) (rowsI l) v := by
  obtain ⟨h0, inner, ho, hr⟩ := Kd.S_R h
  have hlen : inner.length = l.length := by have := hr.1; show inner.length = l.length; rw [this]; show l.length * 1 = _; omega
  refine own_rel hB ho (RelL.of_get (by simp [hlen]) fun i a b ha hb => ?_)
  rw [List.getElem?_map] at ha
  cases hx : l[i]? with
  | none => simp [hx] at ha
  | some y =>
    simp [hx] at ha
    subst ha
    obtain ⟨v1, h1, h2⟩ := hr.2 i y hx
    have h3 : ((inner.drop (i * dB.sz)).take dB.sz)[0]? = some v1 := by rw [h1]; rfl
    have e1 : i * dB.sz = i := by show i * 1 = i; omega
    rw [e1, List.getElem?_take, if_pos (show 0 < dB.sz from Nat.one_pos), List.getElem?_drop, Nat.add_zero, hb] at h3
    cases h3
    exact R_rel hB h2

theorem cell_below {w W : World} (hb : Below w.heap.size w W) {c i : Nat} (hc : c < w.heap.size) : W.cell? ⟨c, i, none⟩ = w.cell? ⟨c, i, none⟩ := by
  unfold World.cell?
  rw [hb.block c hc]
mutual
theorem Rel.widen {w W : World} {O : Nat → Prop} (hb : Below w.heap.size w W) : ∀ {v : V} {c : Value}, Rel (Ew w w.heap.size O) v c → Rel (Ew W W.heap.size fun _ => True) v c
  | _, _, .int k n => .int k n
  | _, _, .bool b => .bool b
  | _, _, .str s => .str s
  | _, _, .agg r => .agg (RelL.widen hb r)
  | _, _, .tup r => .tup (RelL.widen hb r)
  | _, _, .iface t r => .iface t (Rel.widen hb r)
  | _, _, .nilIface => .nilIface
  | _, _, .func fn r s => .func fn (RelL.widen hb r) (RelL.widen hb s)
  | _, _, .nilFunc => .nilFunc
  | _, _, .nilPtr => .nilPtr
  | _, _, .ptrI hs hf r hc => .ptrI ⟨Nat.lt_of_lt_of_le hs.1 hb.size, fun _ => trivial, fun b blk e o q => by cases q⟩ (fun q => absurd (hf q) (Nat.not_le.2 hs.1)) (RelL.widen hb r)
      (fun i v q => by have := hc i v q; rw [← this]; exact cell_below hb hs.1)
  | _, _, .ptrB he _ _ => by cases he
  | _, _, .nilSl => .nilSl
  | _, _, .slI0 q => .slI0 q
  | _, _, .slI hs hf hn ht r hc => .slI ⟨Nat.lt_of_lt_of_le hs.1 hb.size, fun _ => trivial, fun b blk e o q => by cases q⟩ (fun q => absurd (hf q) (Nat.not_le.2 hs.1)) hn ht (RelL.widen hb r)
      (fun i v q => by have := hc i v q; rw [← this]; exact cell_below hb hs.1)
  | _, _, .slB he _ _ => by cases he
theorem RelL.widen {w W : World} {O : Nat → Prop} (hb : Below w.heap.size w W) : ∀ {v : List V} {c : List Value}, RelL (Ew w w.heap.size O) v c → RelL (Ew W W.heap.size fun _ => True) v c
  | _, _, .nil => .nil
  | _, _, .cons r s => .cons (Rel.widen hb r) (RelL.widen hb s)
end
end
end Go.Proofs.Ytnnfcebnmogdmaa.VM
/- The machine of values: ring.text and ring.List. No conditions. -/
namespace Go.Proofs.Ytnnfcebnmogdmaa.RingText
open Go Go.RowKit Go.Shelf Go.Sort Go.Proofs.YtnnfcebnmogdmaaW.PrintWords
attribute [local go_sem] Oper.semAt_some
theorem info8 : (Try.prog.info? 5).map (fun i => (i.zero, i.size, i.bytes)) = some (some (.int .u8 0), 1, 1) := by kernel_rfl
theorem text_ok (A0 : Option Addr) (c0 : Nat) (l0 : List Int) (w : World) (hr0 : (Kd.int .u8).C w A0 l0.length l0) (hc0 : l0.length ≤ c0) (hl : l0.length < 140737488355328) :
    Calls Try.prog 25 #[.slice A0 l0.length c0] w fun e w' => ∃ v0, e = .returned v0 ∧ (Kd.int .u8).R 5 w' w.heap.size (fun _ => True) v0 l0 ∧ Below w.heap.size w w' := by
  have HR0 := Aside0.mk hr0
  have HC0 := Aside0.mk hc0
  clear hr0 hc0
  have HB := Aside0.mk (Below.refl w.heap.size w)
  have LM := Aside0.mk hl
  obtain ⟨i0, hi, hz0, hz1, hz2⟩ := info_parts info8
  have hmk := fun W => run_make (P := Try.prog) W 35 5 i0 (.int .u8 0) Try.underlying35 hi hz0 .i64 .i64 (l0.length : Int) (l0.length : Int) (by omega) (by omega) (by rw [hz2]; omega) (by omega)
  simp only [Int.toNat_natCast, hz1, Nat.mul_one] at hmk
  go_enter Try.func25, Try.ntmps25
  have hsrc : ∀ W : World, Below w.heap.size w W → 0 < (l0.map (fun x => Value.int .u8 x)).length → ∃ ad, A0 = some ad ∧ ∀ j v, (l0.map (fun x => Value.int .u8 x))[j]? = some v → W.cell? (ad.add j) = some v := by
    intro W hW hp
    have hC := Kd.C_below HR0.out hW
    cases A0 with
    | none => rw [C_none hC rfl] at hp; simp at hp
    | some ad => exact ⟨ad, rfl, int_cells hC⟩
  have HS := Aside0.mk hsrc
  have hone : ∀ v ∈ l0.map (fun x => Value.int .u8 x), v.oneCell' = true := by
    intro v hv
    obtain ⟨x, _, rfl⟩ := List.mem_map.1 hv
    rfl
  have H1 := Aside0.mk hone
  clear hone
  clear hsrc
  go_wp2_with (with_reducible refine wpList_copy_splice rfl (.tmp 7) (.tmp 8) 35 35 rfl 5 Try.underlying35 (by rw [hi]; simp [hz1]) (some ⟨w.heap.size, 0, none⟩) A0 l0.length l0.length l0.length c0 rfl rfl w.heap.size 0 (List.replicate l0.length (.int .u8 0)) 5 ?cg (l0.map (fun x => Value.int .u8 x)) ?cn ?cp ?cf ?c1 w.heap.size w ?cb (Nat.le_refl _) ?_; (case cg => rw [show madeCells #[.int .u8 0] l0.length = (List.replicate l0.length (.int .u8 0)).toArray from by rw [← toList_madeCells_one]]; simpa using heap_alloc_new w _); (case cn => simp); (case cp => exact fun hp => ⟨rfl, HS.out _ (below_alloc (Below.refl _ _) _) hp⟩); (case cf => simp); (case c1 => exact H1.out); (case cb => exact below_alloc (Below.refl _ _) _); intro w4 hg4 hb4)
  go_ret
  refine ⟨_, rfl, row_whole (D := (splice (List.replicate l0.length (Value.int .u8 0)) 0 (l0.map (fun x => Value.int .u8 x))).toArray) hg4 ?_ (Nat.le_refl _) LM.out, hb4⟩
  simp [splice]
end Go.Proofs.Ytnnfcebnmogdmaa.RingText
namespace Go.Proofs.Ytnnfcebnmogdmaa.VM
open Go Go.RowKit
noncomputable section
set_option linter.unusedVariables false
def cfPlain : Cfg := ⟨fun _ => false, fun _ => false, fun _ => none⟩
/-- ring.List, of values. -/
def ringListG (base : Nat) (vs : List V) : Option (V × List Blk) :=
  match vs with
  | [.agg [its, .int .i64 a, .int .i64 b]] => match itemsI its with
    | some l => if 0 ≤ a ∧ a < l.length ∧ 0 ≤ b ∧ b ≤ l.length then
        match vcall Try.prog cfPlain 100000 21 0 vs with
        | some (.int .i64 e, []) => if e = 0 then some (.tup [rowsI ((List.range b.toNat).map fun j => l.getD ((a.toNat + j) % l.length) []), .int .i64 0], []) else none
        | _ => none
      else none
    | none => none
  | _ => none
theorem ringList_iso {base : Nat} {vs : List V} {rv : V} {blks : List Blk} (h : ringListG base vs = some (rv, blks)) : IsoSound Try.prog 18 base vs rv blks := by
  intro w O cargs hargs
  unfold ringListG at h
  split at h
  · rename_i its a b
    split at h
    · rename_i l hl
      split at h
      · rename_i hab
        obtain ⟨ha0, ha1, hb0, hb1⟩ := hab
        split at h
        · rename_i e hv
          split at h
          · rename_i he
            subst he
            cases h
            have hargs0 := hargs
            cases hargs with
            | cons r s =>
              cases s
              cases r with
              | agg t =>
                cases t with
                | cons t1 t2 =>
                  cases t2 with
                  | cons t2 t3 =>
                    cases t3 with
                    | cons t3 t4 =>
                      cases t4
                      cases t2
                      cases t3
                      obtain ⟨g1, g2, g3, ad, C, rfl, g4, g5⟩ := items_C hl t1
                      obtain ⟨a', rfl⟩ := Int.eq_ofNat_of_zero_le ha0
                      obtain ⟨b', rfl⟩ := Int.eq_ofNat_of_zero_le hb0
                      refine (RingWalk.list_ok RingText.text_ok ad C l a' b' w g5 g3 g1 g2 (by omega) (by omega) fun W hW => ?_).mono ?_
                      · have := vcall_ok (P := Try.prog) (by kernel_rfl) extOK_none 100000 21 0 _ _ _ hv W (fun _ => True) _ (RelL.widen hW hargs0)
                        refine this.mono fun e w' hp => ?_
                        obtain ⟨cv, ρ, he, hb, _, hr, _⟩ := hp
                        cases hr
                        exact ⟨he, hb⟩
                      · rintro e w' ⟨v0, rfl, hS, hb⟩
                        refine ⟨_, fun _ => none, rfl, hb, ⟨(fun b blk hb => by cases hb), (fun b b' blk blk' e e' c o o' h1 => by cases h1), hb.size⟩, .tup (.cons (S_rel (Nat.le_refl _) hS) (.cons (.int _ _) .nil)), fun b hb => absurd rfl hb⟩
          · cases h
        · cases h
      · cases h
    · cases h
  · cases h
end
end Go.Proofs.Ytnnfcebnmogdmaa.VM
