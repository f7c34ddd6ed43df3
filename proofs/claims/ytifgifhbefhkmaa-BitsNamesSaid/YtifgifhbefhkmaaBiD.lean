/- The machine of values: slices.Collect of tracks and bits.Next, contracts; functions that are carried out by another machine. No conditions. -/
import Derived.Test.YtifgifhbefhkmaaVMcl
import Derived.Test.YtifgifhbefhkmaaBiC
import Derived.Test.YtifgifhbefhkmaaSVx
import Derived.Test.YtifgifhbefhkmaaVMy
import Derived.KernelRfl
namespace Go.Proofs.Ytifgifhbefhkmaa.VM
set_option linter.unusedSimpArgs false
set_option linter.unusedVariables false
open Go Go.RowKit
noncomputable section
def i64V (l : List Int) : V := .slI true (l.map (V.int .i64)) l.length false
theorem own_i64 {w : World} {B base : Nat} {O : Nat → Prop} (hB : B ≤ base) {v : Value} {x : List Int} (h : w.ownsRow base 3 1 v x.length (BW.ints x)) : Rel (Ew w B O) (i64V x) v := by
  refine own_rel hB h (RelL.of_get (by simp [BW.ints]) fun i a b ha hb => ?_)
  simp only [BW.ints, List.getElem?_map] at ha hb
  cases hx : x[i]? with
  | none => simp [hx] at ha
  | some y =>
    simp [hx] at ha hb
    subst ha hb
    exact .int _ _
def okBytes (l : List Int) : Bool := l.all fun x => decide (0 ≤ x) && decide (x < 256)
theorem okBytes_iff {l : List Int} : okBytes l = true ↔ ∀ x ∈ l, 0 ≤ x ∧ x < 256 := by
  unfold okBytes; simp [List.all_eq_true]
theorem B8_len : ∀ (f : Nat) (c : Int), (BW.B8 f c).length ≤ f
  | 0, _ => Nat.le_refl _
  | f + 1, c => by
    unfold BW.B8
    split
    · simp
    · have := B8_len f (BW.loI c); simp; omega
theorem trkF_len : ∀ (l : List Int) (i : Int), (BW.trkF i l).length ≤ 8 * l.length
  | [], _ => by simp [BW.trkF]
  | c :: l, i => by
    have h1 := trkF_len l (i + 1)
    have h2 := B8_len 8 c
    simp only [BW.trkF, List.length_append, List.length_map, List.length_cons]
    unfold BW.trkB
    omega
def collectG (_ : Nat) (vs : List V) : Option (V × List Blk) :=
  match vs with
  | [.func (.func 51) [] [.ptrI _ (.slI _ cs n _ :: _)]] => match u8s (cs.take n) with
    | some bs => if n ≤ cs.length ∧ 1 ≤ n ∧ n ≤ 1000 ∧ okBytes bs = true then some (i64V (BW.trkF 0 bs), []) else none
    | none => none
  | _ => none
theorem iso_fin {w : World} {O : Nat → Prop} {base : Nat} {rv : V} {cv : Value} {w' : World} (hb : Below w.heap.size w w') (hr : Rel (Ew w' w.heap.size O) rv cv) :
    ∃ cv' ρ, Ending.returned cv = .returned cv' ∧ Below w.heap.size w w' ∧ HRel ⟨w', newsF [] base (fun _ => none), ρ, w.heap.size, O⟩ ∧ Rel ⟨w', newsF [] base (fun _ => none), ρ, w.heap.size, O⟩ rv cv' ∧ ∀ b, ρ b ≠ none → base ≤ b ∧ b < base + ([] : List Blk).length :=
  ⟨_, fun _ => none, rfl, hb, ⟨(fun b blk hb => by cases hb), (fun b b' blk blk' e e' c o o' h1 => by cases h1), hb.size⟩, hr, fun b hb => absurd rfl hb⟩
theorem row_at {w : World} {B : Nat} {O : Nat → Prop} {fr tt : Bool} {cs : List V} {n : Nat} {cv : Value} {bs : List Int} (h : u8s (cs.take n) = some bs) (hn : n ≤ cs.length) (h1 : 1 ≤ n) (r : Rel (Ew w B O) (.slI fr cs n tt) cv) :
    ∃ ad cap, cv = .slice (some ad) n cap ∧ ad.block < w.heap.size ∧ bs.length = n ∧ ∀ j v, bs[j]? = some v → w.cell? (ad.add j) = some (.int .u8 v) := by
  generalize hN : n = N at r
  cases r with
  | slI0 => omega
  | @slI fr tight cs cvs n2 cap c o hs hf hnc ht hr hc =>
    subst hN
    have e1 := u8s_rel h (hr.take n)
    have hl := congrArg List.length e1
    have hrl := hr.length
    simp only [List.length_take, List.length_map] at hl
    refine ⟨⟨c, o, none⟩, cap, rfl, hs.1, by omega, fun j v hv => ?_⟩
    have h1 : (cvs.take n)[j]? = some (.int .u8 v) := by rw [e1, List.getElem?_map, hv]; rfl
    rw [List.getElem?_take] at h1
    split at h1
    · rw [Addr.add_lit]; exact hc j _ h1
    · cases h1
theorem collect_iso {base : Nat} {vs : List V} {rv : V} {blks : List Blk} (h : collectG base vs = some (rv, blks)) : IsoSound Try.prog 36 base vs rv blks := by
  intro w O cargs hargs
  unfold collectG at h
  split at h
  · rename_i fr fr2 cs n tt rest
    split at h
    · rename_i bs hbs
      split at h
      · rename_i hq
        obtain ⟨q1, q2, q3, q4⟩ := hq
        cases h
        cases hargs with
        | cons r s =>
          cases s
          cases r with
          | func _ rf rc =>
            cases rf
            cases rc with
            | cons rp rn =>
              cases rn
              cases rp with
              | @ptrI _ _ cvs c o hs hf hr hc =>
                cases hr with
                | @cons _ _ cv0 cvr r0 r1 =>
                  obtain ⟨ad, cap, rfl, ha, hl, hcell⟩ := row_at hbs q1 q2 r0
                  have h0 := hc 0 (.slice (some ad) n cap) (by simp)
                  have hlen := trkF_len bs 0
                  refine (BW.collect_any c o ad n cap bs hl q3 (okBytes_iff.1 q4) (by omega) w hs.1 ha h0 hcell).mono ?_
                  rintro e w' ⟨v, rfl, ho, hb⟩
                  exact iso_fin hb (own_i64 (Nat.le_refl _) ho)
      · cases h
    · cases h
  · cases h
theorem cell_below {w W : World} (hb : Below w.heap.size w W) {c i : Nat} (hc : c < w.heap.size) : W.cell? ⟨c, i, none⟩ = w.cell? ⟨c, i, none⟩ := by
  unfold World.cell?
  rw [hb.block c hc]
mutual
theorem Rel.widen {w W : World} {O : Nat → Prop} (hb : Below w.heap.size w W) : ∀ {v : V} {c : Value}, Rel (Ew w w.heap.size O) v c → Rel (Ew W W.heap.size fun _ => True) v c
  | _, _, .int k n => .int k n
  | _, _, .bool b => .bool b
  | _, _, .str s => .str s
  | _, _, .agg r => .agg (RelL.widen hb r)
  | _, _, .tup r => .tup (RelL.widen hb r)
  | _, _, .iface t r => .iface t (Rel.widen hb r)
  | _, _, .nilIface => .nilIface
  | _, _, .func fn r s => .func fn (RelL.widen hb r) (RelL.widen hb s)
  | _, _, .nilFunc => .nilFunc
  | _, _, .nilPtr => .nilPtr
  | _, _, .ptrI hs hf r hc => .ptrI ⟨Nat.lt_of_lt_of_le hs.1 hb.size, fun _ => trivial, fun b blk e o q => by cases q⟩ (fun q => absurd (hf q) (Nat.not_le.2 hs.1)) (RelL.widen hb r)
      (fun i v q => by have := hc i v q; rw [← this]; exact cell_below hb hs.1)
  | _, _, .ptrB he _ _ => by cases he
  | _, _, .nilSl => .nilSl
  | _, _, .slI0 q => .slI0 q
  | _, _, .slI hs hf hn ht r hc => .slI ⟨Nat.lt_of_lt_of_le hs.1 hb.size, fun _ => trivial, fun b blk e o q => by cases q⟩ (fun q => absurd (hf q) (Nat.not_le.2 hs.1)) hn ht (RelL.widen hb r)
      (fun i v q => by have := hc i v q; rw [← this]; exact cell_below hb hs.1)
  | _, _, .slB he _ _ => by cases he
theorem RelL.widen {w W : World} {O : Nat → Prop} (hb : Below w.heap.size w W) : ∀ {v : List V} {c : List Value}, RelL (Ew w w.heap.size O) v c → RelL (Ew W W.heap.size fun _ => True) v c
  | _, _, .nil => .nil
  | _, _, .cons r s => .cons (Rel.widen hb r) (RelL.widen hb s)
end
/-- bits.Next, where its question answers so. -/
def nextA (cf : Cfg) (k : Nat) (_ : Nat) (vs : List V) : Option (V × List Blk) :=
  match vs with
  | [.int .i64 n, .slI fr cs m tt, .int .i64 f] => match u8s (cs.take m) with
    | some bs => if m ≤ cs.length ∧ 1 ≤ m ∧ m ≤ 1000 ∧ okBytes bs = true then (match vcall Try.prog cf k 18 0 [.int .i64 n, .slI fr cs m tt, .int .i64 f] with
      | some (.tup [.bool b, .int .i64 e], []) => if e = 0 then some (.tup [.int .i64 (BW.nextI f (BW.trkF 0 bs)), .int .i64 0], []) else none
      | _ => none) else none
    | none => none
  | _ => none
theorem nextA_iso {cf : Cfg} (hext : ExtOK Try.prog cf) {k base : Nat} {vs : List V} {rv : V} {blks : List Blk} (h : nextA cf k base vs = some (rv, blks)) : IsoSound Try.prog 20 base vs rv blks := by
  intro w O cargs hargs
  unfold nextA at h
  split at h
  · rename_i n fr cs m tt f
    split at h
    · rename_i bs hbs
      split at h
      · rename_i hq
        obtain ⟨q1, q2, q3, q4⟩ := hq
        split at h
        · rename_i b e hv
          split at h
          · rename_i he
            subst he
            cases h
            have hargs0 := hargs
            cases hargs with
            | cons r1 s =>
              cases s with
              | cons r2 s =>
                cases s with
                | cons r3 s =>
                  cases s
                  cases r1
                  cases r3
                  obtain ⟨ad, cap, rfl, ha, hl, hcell⟩ := row_at hbs q1 q2 r2
                  refine (BW.next_any n f ad m cap bs hl q3 (okBytes_iff.1 q4) w ha hcell fun W hW => ?_).mono ?_
                  · refine (vcall_ok (P := Try.prog) (by kernel_rfl) hext k 18 0 _ _ _ hv W (fun _ => True) _ (RelL.widen hW hargs0)).mono fun e w' hp => ?_
                    obtain ⟨cv, ρ, he, hb, _, hr, _⟩ := hp
                    cases hr with
                    | tup hr =>
                      cases hr with
                      | cons h1 h2 =>
                        cases h2 with
                        | cons h2 h3 =>
                          cases h3
                          cases h1
                          cases h2
                          exact ⟨⟨_, he⟩, hb⟩
                  · rintro e w' ⟨rfl, hb⟩
                    exact iso_fin hb (.tup (.cons (.int _ _) (.cons (.int _ _) .nil)))
          · cases h
        · cases h
      · cases h
    · cases h
  · cases h
/-- bits.Next: by its question, or, where that is no, by the machine itself. -/
def nextF (cf : Cfg) (k base : Nat) (vs : List V) : Option (V × List Blk) :=
  match nextA cf k base vs with
  | some r => some r
  | none => vcall Try.prog cf k 20 base vs
theorem next_iso {cf : Cfg} (hext : ExtOK Try.prog cf) {k base : Nat} {vs : List V} {rv : V} {blks : List Blk} (h : nextF cf k base vs = some (rv, blks)) : IsoSound Try.prog 20 base vs rv blks := by
  unfold nextF at h
  split at h
  · rename_i r hr
    cases h
    exact nextA_iso hext hr
  · exact vcall_ok (by kernel_rfl) hext k 20 base vs rv blks h
/-! math/bits.OnesCount8, by a table. -/
def cfP : Cfg := ⟨fun _ => false, fun _ => false, fun _ => none⟩
def onesG (_ : Nat) (vs : List V) : Option (V × List Blk) :=
  match vs with
  | [.int .u8 c] => if 0 ≤ c ∧ c < 256 then some (.int .i64 ((BW.trkB c).length : Int), []) else none
  | _ => none
def onesC (x : Option (V × List Blk)) (n : Int) : Bool :=
  match x with
  | some (.int .i64 m, []) => decide (m = n)
  | _ => false
theorem onesC_of {x : Option (V × List Blk)} {n : Int} (h : onesC x n = true) : x = some (.int .i64 n, []) := by
  unfold onesC at h
  split at h
  · have := of_decide_eq_true h
    subst this; rfl
  · cases h
theorem ones_chk : ((List.range 256).all fun c => onesC (vcall Try.prog cfP 50 40 0 [.int .u8 (c : Int)]) ((BW.trkB (c : Int)).length : Int)) = true := by kernel_rfl
theorem ones_iso {base : Nat} {vs : List V} {rv : V} {blks : List Blk} (h : onesG base vs = some (rv, blks)) : IsoSound Try.prog 40 base vs rv blks := by
  unfold onesG at h
  split at h
  · rename_i c
    split at h
    · rename_i hc
      cases h
      refine iso_base ?_
      have h1 := List.all_eq_true.1 ones_chk c.toNat (List.mem_range.2 (by omega))
      have e : ((c.toNat : Nat) : Int) = c := by omega
      simp only [e] at h1
      exact vcall_ok (by kernel_rfl) extOK_none 50 40 0 _ _ _ (onesC_of h1)
    · cases h
  · cases h
/-! Functions that are carried out by another machine, in the end. -/
def Ends (F : Nat → Nat → List V → Option (V × List Blk)) (base : Nat) (vs : List V) (rv : V) : Prop := ∃ N, ∀ k, N ≤ k → F k base vs = some (rv, [])
theorem Ends.uniq {F : Nat → Nat → List V → Option (V × List Blk)} {base : Nat} {vs : List V} {a b : V} (h : Ends F base vs a) (g : Ends F base vs b) : a = b := by
  obtain ⟨N, h⟩ := h
  obtain ⟨M, g⟩ := g
  have h1 := h (max N M) (by omega)
  rw [g (max N M) (by omega)] at h1
  cases h1; rfl
open Classical in
def liftG (F : Nat → Nat → List V → Option (V × List Blk)) : Nat → List V → Option (V × List Blk) := fun base vs =>
  if h : ∃ rv, Ends F base vs rv then some (h.choose, []) else none
theorem liftG_of {F : Nat → Nat → List V → Option (V × List Blk)} {base : Nat} {vs : List V} {rv : V} (h : Ends F base vs rv) : liftG F base vs = some (rv, []) := by
  unfold liftG
  have hx : ∃ rv, Ends F base vs rv := ⟨rv, h⟩
  rw [dif_pos hx, Ends.uniq hx.choose_spec h]
theorem liftG_some {F : Nat → Nat → List V → Option (V × List Blk)} {base : Nat} {vs : List V} {rv : V} {blks : List Blk} (h : liftG F base vs = some (rv, blks)) : ∃ k, F k base vs = some (rv, blks) := by
  unfold liftG at h
  split at h
  · rename_i hx
    cases h
    obtain ⟨N, hN⟩ := hx.choose_spec
    exact ⟨N, hN N (Nat.le_refl _)⟩
  · cases h
/-- A function that is known to one machine is known to another that has it carried out there. -/
theorem ct_lift {P : Program} {cf cf' : Cfg} {f : FuncId} (hx : cf'.ext f = some (liftG fun k base vs => vcall P cf k f base vs)) {α : Type} {args : α → List SV} {pre : α → Prop} {res : α → SV} (h : CtOK P cf f (Ct args pre res)) : CtOK P cf' f (Ct args pre res) := by
  intro base bs K hK as' has vbase
  obtain ⟨a, h1, h2, h3⟩ := hK
  obtain ⟨rv, blks, srv, sblks, hN, ⟨g1, g1'⟩, g2, g3⟩ := h base bs (fun s b => K s b ∧ b = []) ⟨a, h1, h2, h3, rfl⟩ as' has vbase
  subst g1'
  cases g2
  refine ⟨rv, [], srv, [], ⟨0, fun n _ => ?_⟩, g1, .nil, g3⟩
  show callI P cf' _ f vbase as' = _
  unfold callI
  rw [hx]
  exact liftG_of hN
theorem lift_iso {P : Program} (hm : P.follows .mixedOrders = true) {cf : Cfg} (hext : ExtOK P cf) {f base : Nat} {vs : List V} {rv : V} {blks : List Blk} (h : liftG (fun k base vs => vcall P cf k f base vs) base vs = some (rv, blks)) : IsoSound P f base vs rv blks := by
  obtain ⟨k, hk⟩ := liftG_some h
  exact vcall_ok hm hext k f base vs rv blks hk
theorem lift_next {cf : Cfg} (hext : ExtOK Try.prog cf) {base : Nat} {vs : List V} {rv : V} {blks : List Blk} (h : liftG (nextF cf) base vs = some (rv, blks)) : IsoSound Try.prog 20 base vs rv blks := by
  obtain ⟨k, hk⟩ := liftG_some h
  exact next_iso hext hk
end
end Go.Proofs.Ytifgifhbefhkmaa.VM
