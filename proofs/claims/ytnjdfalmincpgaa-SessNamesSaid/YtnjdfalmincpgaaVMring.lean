/- The machine of values: ring.List, a contract. No conditions. -/
import Derived.Test.YtnjdfalmincpgaaVMx
import Derived.Test.YtnjdfalmincpgaaRingWalkB
import Derived.KernelRfl
namespace Go.Proofs.Ytnjdfalmincpgaa.VM
set_option linter.unusedSimpArgs false
set_option linter.unusedVariables false
open Go Go.RowKit
open Go.Proofs.YtnjdfalmincpgaaW.PrintWords (Kd encs Reps ReadsRow OwnRow)
noncomputable section

def u8s : List V → Option (List Int)
  | [] => some []
  | .int .u8 x :: r => (u8s r).map (x :: ·)
  | _ :: _ => none
def itemI : V → Option (List Int)
  | .nilSl => some []
  | .slI _ cs n _ => if n ≤ cs.length ∧ n < 140737488355328 then u8s (cs.take n) else none
  | _ => none
def itemsI : V → Option (List (List Int))
  | .slI _ cs n _ => if n ≤ cs.length ∧ 1 ≤ n ∧ n ≤ 64 then mapO itemI (cs.take n) else none
  | _ => none
def rowI (x : List Int) : V := .slI true (x.map (V.int .u8)) x.length false
def rowsI (l : List (List Int)) : V := .slI true (l.map rowI) l.length false

theorem u8s_rel {E : Env} : ∀ {cs : List V} {x : List Int} {cvs : List Value}, u8s cs = some x → RelL E cs cvs → cvs = x.map (Value.int .u8)
  | [], x, cvs, h, r => by cases h; cases r; rfl
  | c :: cs, x, cvs, h, r => by
    cases r with
    | cons r s =>
      unfold u8s at h
      split at h
      · rename_i heq; cases heq
      · rename_i y r' heq
        cases heq
        obtain ⟨ys, h1, rfl⟩ := map_some h
        cases r
        rw [u8s_rel h1 s]
        rfl
      · cases h
abbrev Ew (w : World) (B : Nat) (O : Nat → Prop) : Env := ⟨w, fun _ => none, fun _ => none, B, O⟩
theorem item_C {w : World} {B : Nat} {O : Nat → Prop} {v : V} {cv : Value} {x : List Int} (h : itemI v = some x) (r : Rel (Ew w B O) v cv) :
    x.length < 140737488355328 ∧ ∃ A c, cv = .slice A x.length c ∧ x.length ≤ c ∧ (Kd.int .u8).C w A x.length x := by
  unfold itemI at h
  split at h
  · cases h
    cases r
    exact ⟨by simp, none, 0, rfl, Nat.le_refl _, rfl, by simp, fun q => absurd q (by simp)⟩
  · rename_i fr cs n tight
    split at h
    · rename_i hn
      cases r with
      | slI0 ht =>
        cases h
        exact ⟨by simp, _, _, rfl, Nat.zero_le _, rfl, by simp, fun q => absurd q (by simp)⟩
      | slI hs hf hnc ht hr hc =>
        rename_i cvs cap c o
        have hx := u8s_rel h (hr.take n)
        have hl := congrArg List.length hx
        have hrl := hr.length
        simp only [List.length_take, List.length_map] at hl
        have hxn : x.length = n := by omega
        subst hxn
        refine ⟨hn.2, _, _, rfl, hnc, rfl, by omega, fun _ => ⟨_, rfl, fun j p hj => ⟨[.int .u8 p], rfl, rfl, fun i u hu => ?_⟩⟩⟩
        cases i with
        | succ i => simp at hu
        | zero =>
          simp at hu
          subst hu
          have h1 : (cvs.take x.length)[j]? = some (.int .u8 p) := by rw [hx, List.getElem?_map, hj]; rfl
          rw [List.getElem?_take] at h1
          split at h1
          · have := hc j _ h1
            rw [Addr.add_lit]
            have e1 : j * (Kd.int .u8).sz + 0 = j := by show j * 1 + 0 = j; omega
            rw [e1]
            exact this
          · cases h1
    · cases h
  · cases h
abbrev dB : Kd (List Int) := Kd.slice 5 (Kd.int .u8)
theorem items_C {w : World} {B : Nat} {O : Nat → Prop} {v : V} {cv : Value} {l : List (List Int)} (h : itemsI v = some l) (r : Rel (Ew w B O) v cv) :
    1 ≤ l.length ∧ l.length ≤ 64 ∧ (∀ x ∈ l, x.length < 140737488355328) ∧ ∃ ad c, cv = .slice (some ad) l.length c ∧ l.length ≤ c ∧ dB.C w (some ad) l.length l := by
  unfold itemsI at h
  split at h
  · rename_i fr cs n tight
    split at h
    · rename_i hn
      obtain ⟨g1, g2⟩ := mapO_at h
      have hl : l.length = n := by rw [g1, List.length_take]; omega
      subst hl
      have hne : l.length ≠ 0 := by omega
      generalize hnl : l.length = nl at r hne
      cases r with
      | slI0 ht => exact absurd rfl hne
      | slI hs hf hnc ht hr hc =>
        subst hnl
        rename_i cvs cap c o
        have key : ∀ (j : Nat) (x : List Int), l[j]? = some x → ∃ v cv, cs[j]? = some v ∧ cvs[j]? = some cv ∧ itemI v = some x ∧ Rel (Ew w B O) v cv := by
          intro j x hj
          have hjl : j < l.length := by
            rcases Nat.lt_or_ge j l.length with q | q
            · exact q
            · simp [List.getElem?_eq_none q] at hj
          have hjc : j < cs.length := by omega
          have h1 := g2 j cs[j] (by rw [List.getElem?_take, if_pos hjl]; exact List.getElem?_eq_getElem hjc)
          rw [hj] at h1
          obtain ⟨y, h2, h3⟩ := hr.get j cs[j] (List.getElem?_eq_getElem hjc)
          exact ⟨cs[j], y, List.getElem?_eq_getElem hjc, h2, h1.symm, h3⟩
        refine ⟨hn.2.1, hn.2.2, fun x hx => ?_, _, _, rfl, hnc, rfl, by omega, fun _ => ⟨_, rfl, fun j p hj => ?_⟩⟩
        · obtain ⟨j, hj⟩ := List.getElem?_of_mem hx
          obtain ⟨v, cv, h1, h2, h3, h4⟩ := key j x hj
          exact (item_C h3 h4).1
        · obtain ⟨v, cv, h1, h2, h3, h4⟩ := key j p hj
          obtain ⟨_, A, c', rfl, h5, h6⟩ := item_C h3 h4
          refine ⟨[.slice A p.length c'], rfl, ⟨A, c', rfl, h5, h6⟩, fun i u hu => ?_⟩
          cases i with
          | succ i => simp at hu
          | zero =>
            simp at hu
            subst hu
            have := hc j _ h2
            rw [Addr.add_lit]
            have e1 : j * dB.sz + 0 = j := by show j * 1 + 0 = j; omega
            rw [e1]
            exact this
    · cases h
  · cases h

theorem own_rel {w : World} {B base : Nat} {O : Nat → Prop} (hB : B ≤ base) {e n : Nat} {v : Value} {inner : List Value} (ho : w.ownsRow base e 1 v n inner) {cs : List V} (hr : RelL (Ew w B O) cs inner) : Rel (Ew w B O) (.slI true cs n false) v := by
  obtain ⟨h1, h2⟩ := ho
  have hl := hr.length
  rcases h2 with ⟨rfl, rfl⟩ | ⟨g, cap, cur, rfl, hg, hh, hn, _, hsz, htk⟩
  · cases hr with
    | nil => exact .slI0 fun q => by cases q
    | cons _ _ => simp at h1
  · refine .slI ⟨?_, fun q => ?_, fun b blk e o q => by cases q⟩ (fun _ => Nat.le_trans hB hg) hn (fun q => by cases q) hr fun i u hu => ?_
    · rcases Nat.lt_or_ge g w.heap.size with q | q
      · exact q
      · simp [Array.getElem?_eq_none q] at hh
    · have q' : g < B := q
      omega
    · show w.cell? ⟨g, 0 + i, none⟩ = some u
      rw [Nat.zero_add, cell_at hh, ← Array.getElem?_toList]
      rw [← htk, List.getElem?_take] at hu
      split at hu
      · exact hu
      · cases hu
theorem R_rel {w : World} {B base : Nat} {O : Nat → Prop} (hB : B ≤ base) {e : Nat} {ok : Nat → Prop} {v : Value} {x : List Int} (h : (Kd.int .u8).R e w base ok v x) : Rel (Ew w B O) (rowI x) v := by
  refine own_rel hB (Kd.own_of_R h) (RelL.of_get (by simp [encs]) fun i a b ha hb => ?_)
  simp only [encs, List.getElem?_map] at ha hb
  cases hx : x[i]? with
  | none => simp [hx] at ha
  | some y =>
    simp [hx] at ha hb
    subst ha hb
    exact .int _ _
theorem S_rel {w : World} {B base : Nat} {O : Nat → Prop} (hB : B ≤ base) {e : Nat} {ok : Nat → Prop} {v : Value} {l : List (List Int)} (h : dB.S e w base ok v l) : Rel (Ew w B O) (rowsI l) v := by
  obtain ⟨h0, inner, ho, hr⟩ := Kd.S_R h
  have hlen : inner.length = l.length := by have := hr.1; show inner.length = l.length; rw [this]; show l.length * 1 = _; omega
  refine own_rel hB ho (RelL.of_get (by simp [hlen]) fun i a b ha hb => ?_)
  rw [List.getElem?_map] at ha
  cases hx : l[i]? with
  | none => simp [hx] at ha
  | some y =>
    simp [hx] at ha
    subst ha
    obtain ⟨v1, h1, h2⟩ := hr.2 i y hx
    have h3 : ((inner.drop (i * dB.sz)).take dB.sz)[0]? = some v1 := by rw [h1]; rfl
    have e1 : i * dB.sz = i := by show i * 1 = i; omega
    rw [e1, List.getElem?_take, if_pos (show 0 < dB.sz from Nat.one_pos), List.getElem?_drop, Nat.add_zero, hb] at h3
    cases h3
    exact R_rel hB h2

theorem cell_below {w W : World} (hb : Below w.heap.size w W) {c i : Nat} (hc : c < w.heap.size) : W.cell? ⟨c, i, none⟩ = w.cell? ⟨c, i, none⟩ := by
  unfold World.cell?
  rw [hb.block c hc]
mutual
theorem Rel.widen {w W : World} {O : Nat → Prop} (hb : Below w.heap.size w W) : ∀ {v : V} {c : Value}, Rel (Ew w w.heap.size O) v c → Rel (Ew W W.heap.size fun _ => True) v c
  | _, _, .int k n => .int k n
  | _, _, .bool b => .bool b
  | _, _, .str s => .str s
  | _, _, .agg r => .agg (RelL.widen hb r)
  | _, _, .tup r => .tup (RelL.widen hb r)
  | _, _, .iface t r => .iface t (Rel.widen hb r)
  | _, _, .nilIface => .nilIface
  | _, _, .func fn r s => .func fn (RelL.widen hb r) (RelL.widen hb s)
  | _, _, .nilFunc => .nilFunc
  | _, _, .nilPtr => .nilPtr
  | _, _, .ptrI hs hf r hc => .ptrI ⟨Nat.lt_of_lt_of_le hs.1 hb.size, fun _ => trivial, fun b blk e o q => by cases q⟩ (fun q => absurd (hf q) (Nat.not_le.2 hs.1)) (RelL.widen hb r)
      (fun i v q => by have := hc i v q; rw [← this]; exact cell_below hb hs.1)
  | _, _, .ptrB he _ _ => by cases he
  | _, _, .nilSl => .nilSl
  | _, _, .slI0 q => .slI0 q
  | _, _, .slI hs hf hn ht r hc => .slI ⟨Nat.lt_of_lt_of_le hs.1 hb.size, fun _ => trivial, fun b blk e o q => by cases q⟩ (fun q => absurd (hf q) (Nat.not_le.2 hs.1)) hn ht (RelL.widen hb r)
      (fun i v q => by have := hc i v q; rw [← this]; exact cell_below hb hs.1)
  | _, _, .slB he _ _ => by cases he
theorem RelL.widen {w W : World} {O : Nat → Prop} (hb : Below w.heap.size w W) : ∀ {v : List V} {c : List Value}, RelL (Ew w w.heap.size O) v c → RelL (Ew W W.heap.size fun _ => True) v c
  | _, _, .nil => .nil
  | _, _, .cons r s => .cons (Rel.widen hb r) (RelL.widen hb s)
end
end
end Go.Proofs.Ytnjdfalmincpgaa.VM
