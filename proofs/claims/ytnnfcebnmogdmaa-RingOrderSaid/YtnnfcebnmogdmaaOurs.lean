/- What the print's words lack here: a constant's bytes (their row bears the run-time's mark), a make with a capacity of its own. -/
import Derived.Test.YtnnfcebnmogdmaaWMore
import Derived.Test.YtnnfcebnmogdmaaWN
import Derived.Test.YtnnfcebnmogdmaaWShare
namespace Go.Proofs.YtnnfcebnmogdmaaW.PrintWords
open Go.RowKit
section
variable {P : Program}
/-- 'xs[:n:n]'. -/
theorem cut_to3 (t e : TypeId) (kh : IntKind) {i : TypeInfo} (ht : P.underlying t = some (.slice e)) (hi : P.info? e = some i) (A : Option Addr) (n c : Nat) (j : Int) (h0 : 0 ≤ j) (hm : j ≤ n) (hc : n ≤ c) :
    ∀ W : World, (Instr.slice t (.slice A n c) none (some (.int kh j)) (some (.int kh j))).run P W = .ok (.slice A j.toNat j.toNat) W := by
  intro W
  have hel : P.elem t = e := by simp [Program.elem, ht]
  have hu : P.underlying t = some (.slice (P.elem t)) := by rw [hel]; exact ht
  have ha : (A.map fun x => x.add 0) = A := by cases A <;> simp [Addr.add]
  rw [run_slice_hm W t A n c hu kh kh j j h0 (by omega) (by omega), hel]
  simp [sizeOf, typeInfo, hi, sliced, Result.andThen, ha]
theorem print_take_of3 {α : Type} (enc : α → Value) (d : α) (t e : TypeId) (kl : IntKind) {i : TypeInfo} (ht : P.underlying t = some (.slice e)) (hi : P.info? e = some i) (_hsz : i.size = 1) (A : Option Addr) (c : Nat) (xs : List α) (j : Int) (h0 : 0 ≤ j) (hm : j ≤ xs.length) (hc : xs.length ≤ c) :
    (∀ W : World, (Instr.slice t (.slice A xs.length c) none (some (.int kl j)) (some (.int kl j))).run P W = .ok (.slice A (xs.take j.toNat).length (xs.take j.toNat).length) W) ∧
      (∀ w : World, ReadsOf enc d w A xs.length xs → ReadsOf enc d w A (xs.take j.toNat).length (xs.take j.toNat)) ∧ (xs.take j.toNat).length ≤ (xs.take j.toNat).length := by
  have hl : (xs.take j.toNat).length = j.toNat := by rw [List.length_take]; omega
  refine ⟨fun W => ?_, fun w h => by rw [hl]; exact h.take_ j.toNat (by omega), Nat.le_refl _⟩
  rw [cut_to3 t e kl ht hi A xs.length c j h0 hm hc W, hl]
end
theorem calls_at_args {P : Program} {f : FuncId} {as_ : Array Value} {w : World} {Q : Ending → World → Prop} (h : Calls P f as_ w Q) : Calls P f as_ w Q := h
/-- Which operations of a region have been listed. -/
abbrev tf (m n : Nat) : Array Bool := (List.replicate m true ++ List.replicate n false).toArray
theorem sa_ {α : Type} (l : List α) (i : Nat) (a : α) : l.toArray.setIfInBounds i a = (l.set i a).toArray := List.setIfInBounds_toArray ..
theorem sz_ {α : Type} (x : α) (l : List α) (a : α) : (x :: l).set 0 a = a :: l := rfl
theorem ss_ {α : Type} (x : α) (l : List α) (n : Nat) (a : α) : (x :: l).set (n + 1) a = x :: l.set n a := rfl
/-- What is told for `true` alone. -/
theorem only_to {a : Option Bool} {r : Bool} (h : (if a = some true then some true else none) = some r) : r = true ∧ a = some r := by
  by_cases ha : a = some true
  · rw [if_pos ha] at h; exact ⟨(Option.some.inj h).symm, ha.trans h⟩
  · rw [if_neg ha] at h; cases h
theorem leO_only {a b : Option Bool} (h : LeO a b) : LeO (if a = some true then some true else none) (if b = some true then some true else none) := by
  intro r hr
  obtain ⟨rfl, ha⟩ := only_to hr
  rw [if_pos (h _ ha)]
namespace Kd
theorem V_string {P : Program} {W : World} {base : Nat} {e' src dst e : TypeId} {ok : Nat → Prop} {v : Value} {xs : List Int} (hs : P.underlying src = some (.slice e)) (he : P.underlying e = some (.int .u8)) (hd : P.underlying dst = some .string)
    (h : V (Kd.int .u8) e' W base ok v xs) : (convert src dst v).run P W = .ok (.string (strOfNums xs)) W := by
  obtain ⟨A, c, rfl⟩ := V_slice h
  exact Kd.C_string hs he hd (V_reads' h).2.2
theorem FK_of_R {α : Type} {d : Kd α} {e : TypeId} {W : World} {base : Nat} {ok : Nat → Prop} {v : Value} {xs : List α} (h : d.R e W base ok v xs) : FK (Kd.slice e d) W ok xs [v] := by
  obtain ⟨A, c, rfl, hl, hr⟩ := R_reads h
  exact FK_slice_mk hl (R_F h)
theorem freeze_at {w : World} {g m : Nat} {cur : Array Value} {e : TypeId} (h : w.heap[g]? = some (.cells cur e (0, 0))) : (w.freeze ⟨g, m, none⟩ 1).heap[g]? = some (.cells cur e (m, m + 1)) := by
  unfold World.freeze
  rw [if_neg (by decide)]
  simp only [Array.getElem?_modify]
  rw [if_pos trivial, h]
  rfl
theorem freeze_else {w : World} {g m k : Nat} (hk : k ≠ g) : (w.freeze ⟨g, m, none⟩ 1).heap[k]? = w.heap[k]? := by
  unfold World.freeze
  rw [if_neg (by decide)]
  simp only [Array.getElem?_modify]
  rw [if_neg (fun e => hk e.symm)]
theorem below_freeze {w0 w : World} {base g m : Nat} (hb : Below base w0 w) (hg : base ≤ g) : Below base w0 (w.freeze ⟨g, m, none⟩ 1) := by
  have e : ∀ (f : Obj → Obj), (if 1 = 0 then w else { w with heap := w.heap.modify g f }) = ({ w with heap := w.heap.modify g f } : World) := fun _ => if_neg (by decide)
  refine hb.trans ⟨?_, ?_, ?_, ?_, fun k hk => freeze_else (by omega)⟩
  · unfold World.freeze; rw [e]
  · unfold World.freeze; rw [e]
  · unfold World.freeze; rw [e]
  · unfold World.freeze; rw [e]; simp
section
variable {P : Program} {ops : Array Oper} {rest : List Oper} {o : Oper} {a : Act} {Q : Exit → Act → World → Prop}
/-- Behind a literal of bytes: the conversion to its own type, which marks the row: from now on it is only read. -/
theorem V_mark {w0 w1 : World} {base B e1 t e : Nat} (hgd : o.guard = none) {N : Tmp} (_hd : o.dst = some N) {x : Operand} (ho : o.op = .convert t t x) {v : Value} (hx : a.eval x = v) (ht : P.underlying t = some (.slice e)) (he : P.underlying e = some (.int .u8))
    {xs : List Int} {ok : Nat → Prop} (hR : (Kd.int .u8).R e1 w1 base ok v xs) (hb : Below base w0 w1) (hn : ∃ b, v.ownBlock = some b ∧ B ≤ b)
    (h : ∀ w2, (Kd.int .u8).V e1 w2 base (fun k => B ≤ k) v xs → Below base w0 w2 → wpList P ops Q rest (a.put o.dst v) w2) : wpList P ops Q (o :: rest) a w1 := by
  obtain ⟨b, hvb, hBb⟩ := hn
  obtain ⟨A, c, rfl, hlc, hC⟩ := R_reads hR
  obtain ⟨inner, hown⟩ := R_own hR
  rcases hown.2 with ⟨hv, _⟩ | ⟨g, cap, cur, hv, hg, hh, hnc, hcm, hcs, htk⟩
  · rw [hv] at hvb
    simp [Value.ownBlock] at hvb
  · injection hv with hA _ hc
    subst hA; subst hc
    have hgb : g = b := by simpa [Value.ownBlock] using hvb
    subst hgb
    have hsh : w1.shape? g = some (e1, cur.size) := by
      unfold World.shape?
      rw [hh]
    refine event_run hgd (w1 := w1.freeze ⟨g, cur.size, none⟩ 1) (v := .slice (some ⟨g, 0, none⟩) xs.length c) ?_ (h _ ?_ (below_freeze hb hg))
    · simp [execOp, ho, hx, convert, run_underlying ht, run_underlying he, markStringish, hsh]
    · refine V_mk hlc (fun W' hW => ⟨hC.1, hC.2.1, fun hp => ?_⟩)
      obtain ⟨ad, hA, hcell⟩ := hC.2.2 hp
      refine ⟨ad, hA, fun j p hj => ?_⟩
      obtain ⟨cs, h1, h2, h3⟩ := hcell j p hj
      refine ⟨cs, h1, h2, fun i u hu => ?_⟩
      have h4 := h3 i u hu
      injection hA with hA
      subst hA
      have h5 : W'.heap[g]? = some (.cells cur e1 (cur.size, cur.size + 1)) := by
        have hlt : g < w1.heap.size := (Array.getElem?_eq_some_iff.1 hh).1
        have hsz : (w1.freeze ⟨g, cur.size, none⟩ 1).heap.size = w1.heap.size := by
          unfold World.freeze
          rw [if_neg (by decide)]
          simp
        rw [hW g hBb (by rw [hsz]; exact hlt)]
        exact freeze_at hh
      have hbk : ∀ n, ((⟨g, 0, none⟩ : Addr).add n).block = g := by intro n; unfold Addr.add; split <;> rfl
      unfold World.cell? at h4 ⊢
      rw [hbk, hh] at h4
      rw [hbk, h5]
      exact h4
/-- 'make([]T, l, n)'. -/
theorem R_makeC {α : Type} (d : Kd α) {w0 W : World} (base e : Nat) (hgd : o.guard = none) {N : Tmp} (_hd : o.dst = some N) (t : TypeId) (x y : Operand) (ho : o.op = .makeSlice t x y) (l n : Int) (hx : a.eval x = .int .i64 l) (hy : a.eval y = .int .i64 n)
    (ht : P.underlying t = some (.slice e)) (z : Value) (bytes : Nat) (hinfo : (P.info? e).map (fun i => (i.zero, i.size, i.bytes)) = some (some z, d.sz, bytes)) (hz : z.cells.size = d.sz) (hs0 : 0 < d.sz) (hb0 : 0 < bytes)
    (z0 : α) {ok okp : Nat → Prop} (hzero : d.M W base okp z0 z.cells.toList) (hok : ∀ k, okp k → ok k) (hfresh : ok W.heap.size) (h0 : 0 ≤ l) (hln : l ≤ n) (hl : n.toNat * bytes ≤ 281474976710656) (HB : Below base w0 W) (hbase : base ≤ W.heap.size)
    (h : ∀ v1 w1, d.R e w1 base ok v1 (List.replicate l.toNat z0) → Below base w0 w1 → W.grownBy w1 none → (∃ b, v1.ownBlock = some b ∧ W.heap.size ≤ b) → wpList P ops Q rest (a.put o.dst v1) w1) : wpList P ops Q (o :: rest) a W := by
  obtain ⟨m, rfl⟩ := Int.eq_ofNat_of_zero_le (Int.le_trans h0 hln)
  obtain ⟨j, rfl⟩ := Int.eq_ofNat_of_zero_le h0
  simp only [Int.toNat_natCast] at hl h
  obtain ⟨i0, hi, hzz⟩ := Option.map_eq_some_iff.1 hinfo
  simp only [Prod.mk.injEq] at hzz
  obtain ⟨hz0, hz1, hz2⟩ := hzz
  have hm : m ≤ 281474976710656 := Nat.le_trans (Nat.le_mul_of_pos_right _ hb0) hl
  have hr := run_make (P := P) W t e i0 z ht hi hz0 .i64 .i64 (j : Int) (m : Int) (by omega) (by omega)
    (by
      have h3 : ((i0.bytes * m : Nat) : Int) ≤ 281474976710656 := by rw [hz2, Nat.mul_comm]; omega
      rwa [Int.natCast_mul] at h3) (by omega)
  simp only [Int.toNat_natCast] at hr
  rw [hz1] at hr
  have hrep := reps_made (R := d.M W base okp) hz hs0 hzero m
  have HB1 := HB.alloc hbase (.cells (madeCells z.cells (m * d.sz)) e)
  have hR : d.R e (W.alloc (.cells (madeCells z.cells (m * d.sz)) e)) base ok (.slice (some ⟨W.heap.size, 0, none⟩) m m) (List.replicate m z0) := by
    refine ⟨fun k hk => ?_, (madeCells z.cells (m * d.sz)).toList, ?_, ?_⟩
    · have : W.heap.size = k := by simpa [Value.ownBlock] using hk
      subst this
      exact hfresh
    · have h2 := World.ownsRow_lit (base := base) (e := e) (size := d.sz) W (madeCells z.cells (m * d.sz)) m hbase (by simp [maxLen]; omega) (by simp [size_madeCells])
      simpa using h2
    · refine hrep.imp_ (fun p c hp => d.M_mono (fun k hk => ⟨hok k hk.1, fun he => ?_⟩) (M_below (d.M_bound hp) (below_alloc (Below.refl _ _) _)))
      have h3 : k = W.heap.size := by simpa [Value.ownBlock] using he
      have := hk.2.2.1
      omega
  have hR2 := Kd.R_take (m := j) hR (by simp; omega)
  rw [List.take_replicate, Nat.min_eq_left (by omega)] at hR2
  refine event_run hgd (v := .slice (some ⟨W.heap.size, 0, none⟩) j m) (w1 := W.alloc (.cells (madeCells z.cells (m * d.sz)) e)) ?_ (h _ _ hR2 HB1 (World.grownBy_alloc W _ none) ⟨W.heap.size, by simp [Value.ownBlock], Nat.le_refl _⟩)
  simp [execOp, ho, hx, hy, hr]
end
end Kd
/-- W' is W, drawn from and with new blocks. -/
def Upp (W W' : World) : Prop := ∀ p : World → Prop, (∀ V o, p V → p (V.alloc o)) → (∀ V n, p V → p (V.drewN n)) → (∀ V, p V → p V.drew) → p W → p W'
theorem Upp.refl (W : World) : Upp W W := fun _ _ _ _ h => h
theorem Upp.alloc {W W' : World} (h : Upp W W') (o : Obj) : Upp W (W'.alloc o) := fun p a b c k => a _ o (h p a b c k)
theorem Upp.drewN {W W' : World} (h : Upp W W') (n : Nat) : Upp W (W'.drewN n) := fun p a b c k => b _ n (h p a b c k)
theorem Upp.drew {W W' : World} (h : Upp W W') : Upp W W'.drew := fun p a b c k => c _ (h p a b c k)
section
variable {α : Type} {d : Kd α} {e base : Nat} {ok : Nat → Prop} {v : Value} {xs : List α} {W W' : World}
theorem upR_ (h : Kd.R d e W base ok v xs) (hu : Upp W W' := by repeat (first | (with_reducible exact Upp.refl _) | (with_reducible refine Upp.alloc ?_ _) | (with_reducible refine Upp.drewN ?_ _) | (with_reducible refine Upp.drew ?_) | exact Upp.refl _)) : Kd.R d e W' base ok v xs := hu (fun V => Kd.R d e V base ok v xs) (fun _ o k => Kd.R_alloc k o) (fun _ n k => Kd.R_drewN k n) (fun _ k => Kd.R_drew k) h
theorem upS_ (h : Kd.S d e W base ok v xs) (hu : Upp W W' := by repeat (first | (with_reducible exact Upp.refl _) | (with_reducible refine Upp.alloc ?_ _) | (with_reducible refine Upp.drewN ?_ _) | (with_reducible refine Upp.drew ?_) | exact Upp.refl _)) : Kd.S d e W' base ok v xs := hu (fun V => Kd.S d e V base ok v xs) (fun _ o k => Kd.S_alloc k o) (fun _ n k => Kd.S_drewN k n) (fun _ k => Kd.S_drew k) h
theorem upN_ (h : Kd.N d e W base ok v xs) (hu : Upp W W' := by repeat (first | (with_reducible exact Upp.refl _) | (with_reducible refine Upp.alloc ?_ _) | (with_reducible refine Upp.drewN ?_ _) | (with_reducible refine Upp.drew ?_) | exact Upp.refl _)) : Kd.N d e W' base ok v xs := hu (fun V => Kd.N d e V base ok v xs) (fun _ o k => Kd.N_alloc k o) (fun _ n k => Kd.N_drewN k n) (fun _ k => Kd.N_drew k) h
theorem upV_ (h : Kd.V d e W base ok v xs) (hu : Upp W W' := by repeat (first | (with_reducible exact Upp.refl _) | (with_reducible refine Upp.alloc ?_ _) | (with_reducible refine Upp.drewN ?_ _) | (with_reducible refine Upp.drew ?_) | exact Upp.refl _)) : Kd.V d e W' base ok v xs := hu (fun V => Kd.V d e V base ok v xs) (fun _ o k => Kd.V_alloc k o) (fun _ n k => Kd.V_drewN k n) (fun _ k => Kd.V_drew k) h
theorem upB_ {g : Nat} {o : Obj} (h : W.heap[g]? = some o) (hu : Upp W W' := by repeat (first | (with_reducible exact Upp.refl _) | (with_reducible refine Upp.alloc ?_ _) | (with_reducible refine Upp.drewN ?_ _) | (with_reducible refine Upp.drew ?_) | exact Upp.refl _)) : W'.heap[g]? = some o := hu (fun V => V.heap[g]? = some o) (fun _ o' k => blk_alloc k o') (fun _ n k => blk_drewN k n) (fun _ k => blk_drew k) h
end
theorem upC_ {W W' : World} {g : Nat} {o : Obj} (h : W.heap[g]? = some o) (hu : Upp W W' := by (repeat (first | (with_reducible refine Upp.alloc ?_ _) | (with_reducible refine Upp.drewN ?_ _) | (with_reducible refine Upp.drew ?_))); exact Upp.refl _) : W'.heap[g]? = some o := upB_ h hu
theorem upK_ {α : Type} {d : Kd α} {A : Option Addr} {n : Nat} {xs : List α} {W W' : World} (h : Kd.C d W A n xs) (hu : Upp W W' := by repeat (first | (with_reducible exact Upp.refl _) | (with_reducible refine Upp.alloc ?_ _) | (with_reducible refine Upp.drewN ?_ _) | (with_reducible refine Upp.drew ?_) | exact Upp.refl _)) : Kd.C d W' A n xs := hu (fun V => Kd.C d V A n xs) (fun _ o k => Kd.C_alloc k o) (fun _ n k => Kd.C_drewN k n) (fun _ k => Kd.C_drew k) h
/-- W' is W, drawn from, with new blocks and with stores into blocks from n on. -/
def UppG (n : Nat) (W W' : World) : Prop := ∀ p : World → Prop, (∀ V o, p V → p (V.alloc o)) → (∀ V m, p V → p (V.drewN m)) → (∀ V, p V → p V.drew) → (∀ (V : World) (g j : Nat) (u : Value), n ≤ g → p V → p (V.setCell ⟨g, j, none⟩ u)) → p W → p W'
theorem UppG.refl (n : Nat) (W : World) : UppG n W W := fun _ _ _ _ _ h => h
theorem UppG.alloc {n : Nat} {W W' : World} (h : UppG n W W') (o : Obj) : UppG n W (W'.alloc o) := fun p a b c d k => a _ o (h p a b c d k)
theorem UppG.drewN {n : Nat} {W W' : World} (h : UppG n W W') (m : Nat) : UppG n W (W'.drewN m) := fun p a b c d k => b _ m (h p a b c d k)
theorem UppG.drew {n : Nat} {W W' : World} (h : UppG n W W') : UppG n W W'.drew := fun p a b c d k => c _ (h p a b c d k)
theorem UppG.set {n : Nat} {W W' : World} (h : UppG n W W') {g : Nat} (j : Nat) (u : Value) (hg : n ≤ g) : UppG n W (W'.setCell ⟨g, j, none⟩ u) := fun p a b c d k => d _ _ _ u hg (h p a b c d k)
/-- A Below that follows from the one that stands, over new blocks, draws and stores into blocks of the call's own. -/
theorem hb_ {w W W' : World} (h : Below w.heap.size w W) (hu : UppG w.heap.size W W' := by repeat (first | (with_reducible exact UppG.refl _ _) | (with_reducible refine UppG.alloc ?_ _) | (with_reducible refine UppG.drewN ?_ _) | (with_reducible refine UppG.drew ?_) | (with_reducible refine UppG.set ?_ _ _ (Aside0.out (by assumption))) | exact UppG.refl _ _)) : Below w.heap.size w W' :=
  hu (fun V => Below w.heap.size w V) (fun _ o k => below_alloc k o) (fun _ m k => pw_below_drewN k m) (fun _ k => below_drew1 k) (fun _ _ _ _ hg k => below_set k hg) h
end Go.Proofs.YtnnfcebnmogdmaaW.PrintWords
