/- The iterator over a set's tracks: what comes, one a round. No conditions. -/
import Derived.RangeFuncNested
import Derived.RangeFuncWrites
import Derived.RangeFuncBound
import Derived.RangeFuncCalls
import Derived.RangeFuncLeaves
import Derived.RangeFuncBox
import Derived.Shelf.Abstract
import Derived.WalkKit
import Derived.OwnWalkIn
import Derived.TacticsInMore
import Derived.LoopNIn
import Derived.LoopIn
import Derived.Lib.QuietBelowIn
import Derived.Sort.QuietIn
import Derived.Lib.Walk
import Derived.KernelRfl
import Derived.Test.YtifgifhbefhkmaaProg
import Derived.Maps.AppendAt
import Derived.Shelf.SlIter.Collect
import Derived.Test.YtifgifhbefhkmaaVMcl
import Derived.Test.YtifgifhbefhkmaaSVx
import Derived.Test.YtifgifhbefhkmaaVMy
/- The iterator over a set's tracks: what comes, one a round. No conditions. -/
namespace Go.Proofs.Ytifgifhbefhkmaa.BW
open Go Go.RowKit Go.Shelf Go.Sort
attribute [local go_sem] Oper.semAt_some
set_option linter.unusedSimpArgs false
set_option linter.unusedVariables false
/-- Held aside. -/
structure Hid (p : Prop) : Prop where
  out : p
/-- All blocks of cells below N but g stay. -/
def KC (N g : Nat) (W W' : World) : Prop := ∀ b cs t fr, b < N → b ≠ g → W.heap[b]? = some (.cells cs t fr) → W'.heap[b]? = some (.cells cs t fr)
theorem KC.refl {N g : Nat} (A : World) : KC N g A A := fun _ _ _ _ _ _ h => h
theorem KC.trans {N g : Nat} {A B C : World} (h : KC N g A B) (k : KC N g B C) : KC N g A C := fun b cs t fr hN hb hc => k b cs t fr hN hb (h b cs t fr hN hb hc)
theorem KC.put {N g : Nat} (W : World) (l : Nat) (o o' : Obj) (hl : W.heap[l]? = some o) (ho : o.isCells = false) : KC N g W (W.putObj l o') := fun b cs t fr _ _ hc => by
  have hne : b ≠ l := by
    rintro rfl
    rw [hl] at hc
    cases hc
    cases ho
  rw [World.putObj_heap_other hne]
  exact hc
theorem blk_lt' {W : World} {b : Nat} {o : Obj} (h : W.heap[b]? = some o) : b < W.heap.size := (Array.getElem?_eq_some_iff.1 h).1
theorem KC.below {N g : Nat} {W W' : World} (h : Below W.heap.size W W') : KC N g W W' := fun _ _ _ _ _ _ hc => (h.block _ (blk_lt' hc)).trans hc
theorem KC.cell_at {N g : Nat} {W W' : World} (h : KC N g W W') {a : Addr} {v : Value} (hN : a.block < N) (hb : a.block ≠ g) (hc : W.cell? a = some v) : W'.cell? a = some v := by
  unfold World.cell? at hc ⊢
  cases hq : W.heap[a.block]? with
  | none => rw [hq] at hc; cases hc
  | some x =>
    cases x <;> rw [hq] at hc <;> first | (rw [h _ _ _ _ hN hb hq]; exact hc) | (simp at hc)
theorem add_block (a : Addr) (j : Nat) : (a.add j).block = a.block := by unfold Addr.add; split <;> rfl
/-- The place of the lowest bit. -/
def tzI (c : Int) : Int := if c % 2 = 1 then 0 else if c % 4 = 2 then 1 else if c % 8 = 4 then 2 else if c % 16 = 8 then 3 else if c % 32 = 16 then 4 else if c % 64 = 32 then 5 else if c % 128 = 64 then 6 else if c % 256 = 128 then 7 else 8
/-- Without the lowest bit. -/
def loI (c : Int) : Int := c - 2 ^ (tzI c).toNat
def B8 : Nat → Int → List Int
  | 0, _ => []
  | f + 1, c => if c = 0 then [] else tzI c :: B8 f (loI c)
def trkB (c : Int) : List Int := B8 8 c
def trkF (i : Int) : List Int → List Int
  | [] => []
  | c :: l => (trkB c).map (fun t => i * 8 + t) ++ trkF (i + 1) l
theorem step_fin : ∀ c : Fin 256, c.val ≠ 0 → trkB (c.val : Int) = tzI (c.val : Int) :: trkB (loI (c.val : Int)) ∧ 0 ≤ loI (c.val : Int) ∧ loI (c.val : Int) < (c.val : Int) ∧ Go.bits .and .u8 (c.val : Int) ((c.val : Int) - 1) = loI (c.val : Int) ∧ 0 ≤ tzI (c.val : Int) ∧ tzI (c.val : Int) < 8 := by decide +kernel
theorem step_any {c : Int} (h0 : 0 ≤ c) (h1 : c < 256) (hne : c ≠ 0) : trkB c = tzI c :: trkB (loI c) ∧ 0 ≤ loI c ∧ loI c < c ∧ Go.bits .and .u8 c (c - 1) = loI c ∧ 0 ≤ tzI c ∧ tzI c < 8 := by
  have := step_fin ⟨c.toNat, by omega⟩ (by show c.toNat ≠ 0; omega)
  have e : ((⟨c.toNat, by omega⟩ : Fin 256).val : Int) = c := by show ((c.toNat : Nat) : Int) = c; omega
  rw [e] at this
  exact this
def tzT : ByteArray := ⟨#[8, 0, 1, 0, 2, 0, 1, 0, 3, 0, 1, 0, 2, 0, 1, 0, 4, 0, 1, 0, 2, 0, 1, 0, 3, 0, 1, 0, 2, 0, 1, 0, 5, 0, 1, 0, 2, 0, 1, 0, 3, 0, 1, 0, 2, 0, 1, 0, 4, 0, 1, 0, 2, 0, 1, 0, 3, 0, 1, 0, 2, 0, 1, 0, 6, 0, 1, 0, 2, 0, 1, 0, 3, 0, 1, 0, 2, 0, 1, 0, 4, 0, 1, 0, 2, 0, 1, 0, 3, 0, 1, 0, 2, 0, 1, 0, 5, 0, 1, 0, 2, 0, 1, 0, 3, 0, 1, 0, 2, 0, 1, 0, 4, 0, 1, 0, 2, 0, 1, 0, 3, 0, 1, 0, 2, 0, 1, 0, 7, 0, 1, 0, 2, 0, 1, 0, 3, 0, 1, 0, 2, 0, 1, 0, 4, 0, 1, 0, 2, 0, 1, 0, 3, 0, 1, 0, 2, 0, 1, 0, 5, 0, 1, 0, 2, 0, 1, 0, 3, 0, 1, 0, 2, 0, 1, 0, 4, 0, 1, 0, 2, 0, 1, 0, 3, 0, 1, 0, 2, 0, 1, 0, 6, 0, 1, 0, 2, 0, 1, 0, 3, 0, 1, 0, 2, 0, 1, 0, 4, 0, 1, 0, 2, 0, 1, 0, 3, 0, 1, 0, 2, 0, 1, 0, 5, 0, 1, 0, 2, 0, 1, 0, 3, 0, 1, 0, 2, 0, 1, 0, 4, 0, 1, 0, 2, 0, 1, 0, 3, 0, 1, 0, 2, 0, 1, 0]⟩
theorem tzT_at : ∀ k : Fin 256, ∃ h : k.val < tzT.size, wrap64 ((tzT[k.val]'h).toNat : Int) = tzI (k.val : Int) := by
  have h : tzT.size = 256 := by decide +kernel
  have g : ∀ k : Fin 256, wrap64 ((tzT.data.getD k.val 0).toNat : Int) = tzI (k.val : Int) := by decide +kernel
  intro k
  have hk : k.val < tzT.size := by rw [h]; exact k.isLt
  refine ⟨hk, ?_⟩
  rw [← g k]
  have : tzT[k.val]'hk = tzT.data.getD k.val 0 := by
    show tzT.data[k.val]'hk = _
    have hk' : k.val < tzT.data.size := hk
    rw [Array.getD_eq_getD_getElem?, Array.getElem?_eq_getElem hk']
    rfl
  rw [this]
set_option maxRecDepth 100000 in
set_option maxHeartbeats 2000000 in
/-- math/bits.TrailingZeros8 -/
theorem tz_any (F : Fence) (n : Nat) (h52 : F.fn 52) (hro : F.round = none) (c : Nat) (hc : c < 256) (w : World) : CallsIn F n Try.prog 52 #[.int .u8 c] w fun e w' => e = .returned (.int .i64 (tzI c)) ∧ w' = w := by
  refine callsIn_of_wp Try.func52 rfl h52 ?_ hro
  simp only [Try.ntmps52, List.size_toArray, List.length_cons, List.length_nil, Nat.reduceAdd, Nat.reduceSub, Array.replicate_succ, Array.replicate_zero, List.push_toArray, List.append_toArray, List.nil_append, List.cons_append]
  gi_wp2
  go_ret
  obtain ⟨h1, h2⟩ := tzT_at ⟨c, hc⟩
  exact ⟨congrArg (fun z => Ending.returned (.int .i64 z)) h2, rfl⟩
set_option maxRecDepth 100000 in
set_option maxHeartbeats 2000000 in
/-- bits.tracks' function: the tracks come in order, one a round. -/
theorem tracks_in (F : Fence) (n : Nat) (h51 : F.fn 51) (h52 : F.fn 52) (hro : F.round = none) (hn : 2 ≤ n) (l Bn o N g : Nat) (hBN : Bn < N) (hne : Bn ≠ g) (ad : Addr) (haN : ad.block < N) (hag : ad.block ≠ g) (L C : Nat) (bs : List Int) (hL : bs.length = L) (hL2 : L ≤ 1000) (hby : ∀ x ∈ bs, 0 ≤ x ∧ x < 256) (J Jx : List Int → World → Prop)
    (hY : ∀ pre x W, J pre W → pre.length < (trkF 0 bs).length → YieldAt F (n - 1) Try.prog l #[.int .i64 x] W fun e W' =>
      (e = .returned (.bool true) ∧ J (pre ++ [x]) W' ∧ KC N g W W') ∨ (e = .returned (.bool false) ∧ Jx (pre ++ [x]) W'))
    (W : World) (hB0 : W.cell? ⟨Bn, o, none⟩ = some (.slice (some ad) L C)) (hc : ∀ j v, bs[j]? = some v → W.cell? (ad.add j) = some (.int .u8 v)) (h0 : J [] W) :
    CallsIn F n Try.prog 51 #[.func (.yield l) #[] #[], .pointer (some ⟨Bn, o, none⟩)] W fun e W' => (∃ v, e = .returned v) ∧
      ((∃ ys, ys = trkF 0 bs ∧ J ys W') ∨ (∃ pre, pre <+: trkF 0 bs ∧ Jx pre W')) := by
  refine callsIn_of_wp Try.func51 rfl h51 ?_ hro
  simp only [Try.ntmps51, List.size_toArray, List.length_cons, List.length_nil, Nat.reduceAdd, Nat.reduceSub, Array.replicate_succ, Array.replicate_zero, List.push_toArray, List.append_toArray, List.nil_append, List.cons_append]
  have HY := Hid.mk hY
  have HC := Hid.mk hc
  have HB := Hid.mk hby
  clear hY hc hby
  gi_wp2
  gi_loopw [7] (fun i wr => ∃ k : Nat, k ≤ L ∧ i = .int .i64 k ∧ Hid (KC N g W wr) ∧ Hid (∃ pre, J pre wr ∧ pre ++ trkF k (bs.drop k) = trkF 0 bs))
    (fun i _ => L - (intOf i).toNat)
  case atStart => exact ⟨0, by omega, rfl, ⟨KC.refl W⟩, ⟨[], h0, by simp⟩⟩
  case round =>
    obtain ⟨k, hk, rfl, hkc, hj⟩ := hrel
    by_cases hlt : k < L
    · have hlt' : k < bs.length := by omega
      obtain ⟨c, hcv⟩ : ∃ c, bs[k]? = some c := ⟨bs[k]'hlt', List.getElem?_eq_getElem hlt'⟩
      have hcb := HB.out c (List.mem_of_getElem? hcv)
      obtain ⟨cn, rfl⟩ : ∃ cn : Nat, c = cn := ⟨c.toNat, by omega⟩
      have cv : wr.cell? (ad.add k) = some (.int .u8 cn) := hkc.out.cell_at (by rw [add_block]; exact haN) (by rw [add_block]; exact hag) (HC.out k _ hcv)
      have hk64 : (k : Int) < (L : Int) := by omega
      have HD : Hid (bs.drop k = (cn : Int) :: bs.drop (k + 1)) := ⟨by rw [List.drop_eq_getElem_cons hlt']; congr 1; rw [List.getElem?_eq_getElem hlt'] at hcv; exact Option.some.inj hcv⟩
      have HCB := Hid.mk hcb
      clear hcv hcb
      gi_wp2
      gi_loopw [4] (fun i w2 => ∃ c : Nat, c < 256 ∧ i = .int .u8 c ∧ Hid (KC N g W w2) ∧ Hid (∃ pre, J pre w2 ∧ pre ++ ((trkB c).map (fun t => (k : Int) * 8 + t) ++ trkF ((k : Int) + 1) (bs.drop (k + 1))) = trkF 0 bs)) (fun i _ => (intOf i).toNat)
      case atStart =>
        refine ⟨cn, by have := HCB.out; omega, rfl, hkc, ⟨?_⟩⟩
        obtain ⟨pre, h1, h2⟩ := hj.out
        refine ⟨pre, h1, ?_⟩
        rw [HD.out] at h2
        exact h2
      case round =>

        obtain ⟨c, hc, rfl, hkc2, hj2⟩ := hrel
        clear hj hkc HCB HD cv
        by_cases hc0 : c = 0
        · subst hc0
          gi_wp2
          go_roundw
          case rel =>
            refine ⟨k + 1, by omega, by go_num, hkc2, ⟨?_⟩⟩
            obtain ⟨pre, h1, h2⟩ := hj2.out
            exact ⟨pre, h1, h2⟩
          case measure => simp [intOf]; omega
        · obtain ⟨pre, hJ1, heq⟩ := hj2.out
          obtain ⟨s1, s2, s3, s4, s5, s6⟩ := step_any (c := (c : Int)) (by omega) (by omega) (by omega)
          obtain ⟨z, hz⟩ : ∃ z, tzI (c : Int) = z := ⟨_, rfl⟩
          obtain ⟨lo, hlo⟩ : ∃ lo : Nat, loI (c : Int) = lo := ⟨(loI (c : Int)).toNat, by omega⟩
          rw [hz, hlo] at s1
          rw [hz] at s5 s6
          rw [hlo] at s2 s3 s4
          have HT := Hid.mk (fun m => tz_any F m h52 hro c hc)
          rw [hz] at HT
          have HEQ : Hid ((pre ++ [(k : Int) * 8 + z]) ++ ((trkB lo).map (fun t => (k : Int) * 8 + t) ++ trkF ((k : Int) + 1) (bs.drop (k + 1))) = trkF 0 bs) := ⟨by rw [← heq, s1]; simp⟩
          have hYY := HY.out pre ((k : Int) * 8 + z) wr hJ1 (by rw [← HEQ.out]; simp)
          obtain ⟨fn, tmps, assign, body, hy, hR⟩ := hYY
          have HR := Hid.mk hR
          have hc1 : ¬ (c : Int) = 0 := by omega
          clear hR heq hj2 s1 hz hlo hJ1
          gi_wp2
          refine ⟨fun _ => by omega, (HT.out _ _).mono ?_⟩
          rintro e w3 ⟨rfl, rfl⟩
          gi_wp2
          refine ⟨fun _ => by omega, HR.out.mono ?_⟩
          rintro e W3 h3
          obtain ⟨b, rfl, hb⟩ : ∃ b : Bool, e = .returned (.bool b) ∧ Hid ((b = true → J (pre ++ [(k : Int) * 8 + z]) W3 ∧ KC N g w3 W3) ∧ (b = false → Jx (pre ++ [(k : Int) * 8 + z]) W3)) := by
            rcases h3 with ⟨rfl, h4, h5⟩ | ⟨rfl, h4⟩
            · exact ⟨true, rfl, ⟨fun _ => ⟨h4, h5⟩, fun h => by cases h⟩⟩
            · exact ⟨false, rfl, ⟨fun h => (by cases h), fun _ => h4⟩⟩
          clear h3
          cases b with
          | false =>
            gi_wp2
            refine bodyPost_ret (results_none rfl _ _ _) rfl ?_
            exact ⟨⟨_, rfl⟩, .inr ⟨_, ⟨_, HEQ.out⟩, hb.out.2 trivial⟩⟩
          | true =>
            gi_wp2
            go_roundw
            case rel => exact ⟨lo, by omega, by go_num, ⟨hkc2.out.trans (hb.out.1 trivial).2⟩, ⟨_, (hb.out.1 trivial).1, HEQ.out⟩⟩
            case measure => simp [intOf]; omega
    · obtain rfl : k = L := by omega
      gi_wp2
      go_end0
      obtain ⟨pre, h1, h2⟩ := hj.out
      rw [List.drop_eq_nil_of_le (by omega)] at h2
      simp only [trkF, List.append_nil] at h2
      exact ⟨⟨_, rfl⟩, .inl ⟨_, h2, h1⟩⟩
end Go.Proofs.Ytifgifhbefhkmaa.BW
/- slices.Collect of a set's tracks. No conditions. -/
namespace Go.Proofs.Ytifgifhbefhkmaa.BW
open Go Go.RowKit Go.Shelf Go.Sort
attribute [local go_sem] Oper.semAt_some
set_option linter.unusedSimpArgs false
set_option linter.unusedVariables false
def ints (l : List Int) : List Value := l.map (Value.int .i64)
abbrev Bx (W : World) (B : Nat) (t : TypeId) (v : Value) : Prop := W.heap[B]? = some (.cells #[v] t (0, 0))
theorem info3 : (Try.prog.info? 3).map (fun i => (i.zero, i.size, i.bytes)) = some (some (.int .i64 0), 1, 8) := by kernel_rfl
/-- Between two rounds. -/
def AInv (w : World) (pre : List Int) (W : World) : Prop := (∃ v, Bx W w.heap.size 31 v ∧ W.ownsRow (w.heap.size + 1) 3 1 v pre.length (ints pre)) ∧ Below w.heap.size w W ∧ w.heap.size + 1 ≤ W.heap.size
theorem ainv_own {w : World} {B : Nat} (hB : w.heap.size ≤ B) : OwnFrom B (AInv w) := by
  rintro pre A B' row ⟨⟨v, hv, hS⟩, hb, hs⟩ hg hr
  have hc : ∀ r, row = some r → ∀ cs t fr, A.heap[r]? ≠ some (.cells cs t fr) := by
    intro r e cs t fr h
    obtain ⟨_, o, ho, hoc⟩ := hr r e
    rw [h] at ho
    cases ho
    cases hoc
  refine ⟨⟨v, (hg.block _ (blk_lt' hv) (fun e => hc _ e.symm _ _ _ hv)).trans hv, hS.kept hg ?_⟩, hb.grown hg hb.size (fun k e => by have := (hr k e).1; omega), Nat.le_trans hs hg.size⟩
  rcases hS.2 with ⟨rfl, _⟩ | ⟨g, cap, cur, rfl, _, hgb, _⟩
  · exact .inl rfl
  · refine .inr fun e' => ?_
    exact hc g (by simpa [Value.ownBlock] using e'.symm) _ _ _ hgb
set_option maxRecDepth 100000 in
set_option maxHeartbeats 2000000 in
theorem append_any (Bn o : Nat) (ad : Addr) (L C : Nat) (bs : List Int) (hL : bs.length = L) (hL2 : L ≤ 1000) (hby : ∀ x ∈ bs, 0 ≤ x ∧ x < 256) (hM : (trkF 0 bs).length ≤ 10000) (w : World) (hB : Bn < w.heap.size) (ha : ad.block < w.heap.size)
    (hB0 : w.cell? ⟨Bn, o, none⟩ = some (.slice (some ad) L C)) (hc : ∀ j v, bs[j]? = some v → w.cell? (ad.add j) = some (.int .u8 v)) :
    Calls Try.prog 50 #[.slice none 0 0, .func (.func 51) #[] #[.pointer (some ⟨Bn, o, none⟩)]] w fun e w' => ∃ v, e = .returned v ∧ w'.ownsRow w.heap.size 3 1 v (trkF 0 bs).length (ints (trkF 0 bs)) ∧ Below w.heap.size w w' := by
  obtain ⟨i0, hi, hz0, hz1, hz2⟩ := info_parts info3
  refine (callsIn_wide (n := 6)).1 ?_
  refine callsIn_of_wp_marks Try.func50 rfl trivial ?_ rfl
  simp only [Try.ntmps50, List.size_toArray, List.length_cons, List.length_nil, Nat.reduceAdd, Nat.reduceSub, Array.replicate_succ, Array.replicate_zero, List.push_toArray, List.append_toArray, List.nil_append, List.cons_append]
  have HC := Hid.mk hc
  have HBY := Hid.mk hby
  clear hc hby
  gi_wp2
  have hs1 : (w.alloc (.cells #[.slice none 0 0] 31)).heap.size = w.heap.size + 1 := by simp
  refine wpIn_rangeFunc_ownG (F := Fence.wide) rfl (by decide) (gf := 51) (lb := #[.pointer (some ⟨Bn, o, none⟩)]) rfl trivial (enters_of Try.func51 (by kernel_rfl) rfl)
    (encs := fun x : Int => #[.int .i64 x]) (Kp := KC w.heap.size w.heap.size) (S := fun ys => ys = trkF 0 bs) (Sp := fun pre => pre <+: trkF 0 bs) (N := (trkF 0 bs).length)
    ?seq (fun h k => h.trans k) (fun W l o o' _ hl ho _ => KC.put W l o o' hl ho) (Below.refl _ _) (fun _ => rfl)
    (AInv w) (fun _ _ _ => False) (ainv_own (by rw [hs1]; omega)) (fun _ _ _ _ _ hs _ _ => hs) ?start
    (fun x => { tmps := #[.slice none 0 0, .func (.func 51) #[] #[.pointer (some ⟨Bn, o, none⟩)], .pointer (some ⟨w.heap.size, 0, none⟩), undef, .slice none 0 0, .int .i64 x, .func (.func 51) #[] #[.pointer (some ⟨Bn, o, none⟩)], .int .i64 x, undef, undef, undef, undef, undef], defers := [] }) ?assign ?body ?done ?stop
  case seq =>
    intro l' J Jx W hW hJ hJx hY h0
    have hBl : Below w.heap.size w W := ((Below.refl w.heap.size w).alloc (Nat.le_refl _) _).trans (hW.mono (by rw [hs1]; omega))
    exact tracks_in Fence.wide 5 trivial trivial rfl (by decide) l' Bn o w.heap.size w.heap.size hB (by omega) ad ha (by omega) L C bs hL hL2 HBY.out J Jx hY W ((hBl.cell hB).trans hB0) (fun j v hv => (hBl.cell (by rw [add_block]; exact ha)).trans (HC.out j v hv)) h0
  case start => exact ⟨⟨_, World.alloc_heap_new w _, ⟨rfl, .inl ⟨rfl, rfl⟩⟩⟩, (Below.refl _ w).alloc (Nat.le_refl _) _, by rw [hs1]; omega⟩
  case assign =>
    intro l' x W K hK
    gi_wp2
    exact hK
  case body =>
    rintro l' pre x W ⟨⟨v, hv, hS⟩, hB1, hN⟩ hlt
    have hb1 := cell_of_box_a hv
    obtain ⟨hc2, hf2⟩ := hb1
    have HS := Hid.mk hS
    have HV := Hid.mk hv
    have HB1 := Hid.mk hB1
    have HLT := Hid.mk hlt
    clear hS hB1 hlt
    gi_wp2_with (first
      | (gi_at_builtin; refine wpListIn_append_own _ rfl _ _ 31 rfl (w.heap.size + 1) 3 i0 (.int .i64 0) 1 8 Try.underlying31 hi hz0 hz1 hz2 rfl (by decide) _ _ _ rfl (HS.out.alloc _) ⟨W.heap.size, 0, none⟩ 1 1 [.int .i64 x] rfl rfl (cell_one_new _ _ _) (by simp [Value.oneCell']) (by have := HLT.out; unfold maxLen; omega) (by have := HLT.out; omega) (by simp; omega) ?_; intro v' w3 hown' hg3 hnil3
         have hBW : w.heap.size < W.heap.size := by omega
         have hne : some w.heap.size ≠ v.ownBlock := fun e => by have := (HS.out.lt _ e.symm).1; omega
         have hv3 : w3.heap[w.heap.size]? = some (.cells #[v] 31 (0, 0)) := (hg3.block w.heap.size (by simp; omega) hne).trans ((Below.heap_alloc _ _ _ hBW).trans HV.out)
         obtain ⟨hc3, hf3⟩ := cell_of_box_a hv3
         obtain ⟨g', cap', cur', rfl, hg'b⟩ : ∃ g' cap' cur', v' = .slice (some ⟨g', 0, none⟩) (pre.length + 1) cap' ∧ Hid (w.heap.size + 1 ≤ g' ∧ w3.heap[g']? = some (.cells cur' 3 (0, 0))) := by
           rcases hown'.2 with ⟨_, h0⟩ | ⟨g', cap', cur', h1, h2, h3, _⟩
           · exact absurd h0 (by omega)
           · exact ⟨g', cap', cur', h1, ⟨h2, h3⟩⟩
         have HO := Hid.mk hown'
         have HG := Hid.mk hg3
         have HV3 := Hid.mk hv3
         clear hown' hg3 hv3 hne
         go_frame)
      | gi_in)
    have hBW : w.heap.size < W.heap.size := by omega
    obtain ⟨w4, hw4⟩ : ∃ w4, w3.setCell ⟨w.heap.size, 0, none⟩ (.slice (some ⟨g', 0, none⟩) (pre.length + 1) cap') = w4 := ⟨_, rfl⟩
    rw [hw4]
    have hg4 : w3.grownBy w4 (some w.heap.size) := by rw [← hw4]; exact grownBy_setCell0_a _ _ _
    have hv4 : w4.heap[w.heap.size]? = some (.cells #[.slice (some ⟨g', 0, none⟩) (pre.length + 1) cap'] 31 (0, 0)) := by rw [← hw4]; exact heap_setCell_box_a _ HV3.out
    have hrow4 := HO.out.kept hg4 (.inr (fun e => by have := (HO.out.lt _ e).1; omega))
    have hsz3 : W.heap.size + 1 ≤ w3.heap.size := by have := HG.out.size; simpa using this
    have hsz4 := hg4.size
    have hown_ge : ∀ k, v.ownBlock = some k → w.heap.size + 1 ≤ k := fun k e => (HS.out.lt k e).1
    have hb3 : Below w.heap.size w w3 := (HB1.out.alloc HB1.out.size _).grown HG.out (by have := HB1.out.size; simp; omega) (fun k e => by have := hown_ge k e; omega)
    have hb4 : Below w.heap.size w w4 := hb3.grown hg4 hb3.size (fun k e => by cases e; omega)
    have same : ∀ (k : Nat) (o : Obj), W.heap[k]? = some o → some k ≠ v.ownBlock → k ≠ w.heap.size → w4.heap[k]? = some o := fun k o hk h1 h2 => by
      have hkl := blk_lt' hk
      refine (hg4.block k (by omega) (fun e => by cases e; exact h2 rfl)).trans ((HG.out.block k (by simp; omega) h1).trans ((Below.heap_alloc _ _ k hkl).trans hk))
    refine ⟨⟨by omega, fun k o hk ho hoc => same k o ho (fun e => ?_) (by rw [hs1] at hk; omega)⟩, fun b cs ty fr hb hne hcs => same b _ hcs (fun e => by have := hown_ge b e.symm; omega) hne, ⟨_, hv4, by simpa [ints] using hrow4⟩, hb4, by omega⟩
    rcases HS.out.2 with ⟨rfl, _⟩ | ⟨g, cap, cur, rfl, _, hgb, _⟩
    · simp [Value.ownBlock] at e
    · simp only [Value.ownBlock, Option.some.injEq] at e
      subst e
      rw [hgb] at ho
      cases ho
      cases hoc
  case done =>
    rintro D ys W hD rfl ⟨⟨v, hv, hS⟩, hB1, hN⟩ hK
    obtain ⟨hc2, hf2⟩ := cell_of_box_a hv
    have HS := Hid.mk hS
    have HB1 := Hid.mk hB1
    have HK := Hid.mk hK
    clear hS hB1 hK
    gi_wp2
    have hKD := HK.out
    have hDne : ∀ k, v.ownBlock = some k → k ≠ D := fun k e q => by
      subst q
      rcases HS.out.2 with ⟨rfl, _⟩ | ⟨g, cap, cur, rfl, _, hgb, _⟩
      · simp [Value.ownBlock] at e
      · simp only [Value.ownBlock, Option.some.injEq] at e
        subst e
        rw [hgb] at hKD
        cases hKD
    refine ⟨by simp, .inl ⟨_, _, rfl, run_takeDeferred hKD, ?_⟩⟩
    have hS3 := HS.out.kept (grownBy_putObj_a W D (.deferred none)) (.inr (fun e => hDne _ e rfl))
    refine ⟨_, results_tmp rfl _ _ _, v, rfl, ?_, HB1.out.grown (grownBy_putObj_a W D _) HB1.out.size (fun k e => by cases e; rw [hs1] at hD; omega)⟩
    refine ⟨hS3.1, hS3.2.imp id ?_⟩
    rintro ⟨g, cap, cur, h1, h2, h3⟩
    exact ⟨g, cap, cur, h1, by omega, h3⟩
  case stop =>
    rintro D c pre W _ _ h _
    exact h.elim
/-- slices.Collect -/
theorem collect_any (Bn o : Nat) (ad : Addr) (L C : Nat) (bs : List Int) (hL : bs.length = L) (hL2 : L ≤ 1000) (hby : ∀ x ∈ bs, 0 ≤ x ∧ x < 256) (hM : (trkF 0 bs).length ≤ 10000) (w : World) (hB : Bn < w.heap.size) (ha : ad.block < w.heap.size)
    (hB0 : w.cell? ⟨Bn, o, none⟩ = some (.slice (some ad) L C)) (hc : ∀ j v, bs[j]? = some v → w.cell? (ad.add j) = some (.int .u8 v)) :
    Calls Try.prog 36 #[.func (.func 51) #[] #[.pointer (some ⟨Bn, o, none⟩)]] w fun e w' => ∃ v, e = .returned v ∧ w'.ownsRow w.heap.size 3 1 v (trkF 0 bs).length (ints (trkF 0 bs)) ∧ Below w.heap.size w w' := by
  have HA := Hid.mk (append_any Bn o ad L C bs hL hL2 hby hM w hB ha hB0 hc)
  clear hby hc
  go_enter Try.func36, Try.ntmps36
  go_wp2_with (go_at_call 50; refine HA.out.mono ?_; rintro e w' ⟨v, rfl, hS, hb⟩; have HS := Hid.mk hS; have HBb := Hid.mk hb; clear hS hb)
  go_ret
  exact ⟨v, rfl, HS.out, HBb.out⟩
end Go.Proofs.Ytifgifhbefhkmaa.BW
/- bits.Next: the first track from one on, going round. No conditions. -/
namespace Go.Proofs.Ytifgifhbefhkmaa.BW
open Go Go.RowKit Go.Shelf Go.Sort
attribute [local go_sem] Oper.semAt_some
set_option linter.unusedSimpArgs false
set_option linter.unusedVariables false
/-- The first one that came; below 0: none. -/
def firstF (l : List Int) : Int := l.foldl (fun a x => if a < 0 then x else a) (-1)
def nextI (f : Int) (l : List Int) : Int := match l.find? (fun x => decide (f ≤ x)) with
  | some x => x
  | none => firstF l
theorem firstF_snoc (l : List Int) (x : Int) : firstF (l ++ [x]) = if firstF l < 0 then x else firstF l := by
  unfold firstF; rw [List.foldl_append]; rfl
theorem nextI_stop {f x : Int} {pre l : List Int} (h : pre ++ [x] <+: l) (hx : f ≤ x) (hp : ∀ y ∈ pre, y < f) : nextI f l = x := by
  obtain ⟨r, rfl⟩ := h
  unfold nextI
  have h1 : pre.find? (fun x => decide (f ≤ x)) = none := List.find?_eq_none.2 fun y hy => by have := hp y hy; simp; omega
  rw [List.append_assoc, List.find?_append, h1]
  simp [hx]
theorem nextI_none {f : Int} {l : List Int} (hp : ∀ y ∈ l, y < f) : nextI f l = firstF l := by
  unfold nextI
  have h1 : l.find? (fun x => decide (f ≤ x)) = none := List.find?_eq_none.2 fun y hy => by have := hp y hy; simp; omega
  rw [h1]
theorem below_bx {w W : World} {N b : Nat} {t : TypeId} {v : Value} (h : Below N w W) (hb : b < N) (hv : Bx w b t v) : Bx W b t v := (h.block _ hb).trans hv
/-- Between two rounds: the place that is asked for, and the first one. -/
def NInv (w : World) (B : Nat) (f : Int) (pre : List Int) (W : World) : Prop :=
  (∀ y ∈ pre, y < f) ∧ Bx W w.heap.size 3 (.int .i64 f) ∧ Bx W (w.heap.size + 1) 3 (.int .i64 0) ∧ Bx W (w.heap.size + 2) 23 (.int .i64 0) ∧ Bx W B 3 (.int .i64 (firstF pre)) ∧ Below w.heap.size w W ∧ B + 2 ≤ W.heap.size
def NStop (w : World) (f : Int) (c : Code) (pre : List Int) (W : World) : Prop :=
  c = .ret ∧ ∃ p x, pre = p ++ [x] ∧ f ≤ x ∧ (∀ y ∈ p, y < f) ∧ Bx W (w.heap.size + 1) 3 (.int .i64 x) ∧ Bx W (w.heap.size + 2) 23 (.int .i64 0) ∧ Below w.heap.size w W ∧ w.heap.size + 3 ≤ W.heap.size
theorem bx_grown {W W' : World} {row : Option Nat} {b : Nat} {t : TypeId} {v : Value} (hg : W.grownBy W' row) (hr : ∀ r, row = some r → ∃ o : Obj, W.heap[r]? = some o ∧ o.isCells = false) (h : Bx W b t v) : Bx W' b t v := by
  refine (hg.block _ (blk_lt' h) fun e => ?_).trans h
  obtain ⟨o, ho, hc⟩ := hr b e.symm
  rw [h] at ho
  cases ho
  cases hc
theorem ninv_own {w : World} {B : Nat} {f : Int} (hB : w.heap.size ≤ B) : OwnFrom (B + 2) (NInv w B f) := by
  rintro pre A A' row ⟨h0, h1, h2, h3, h4, h5, h6⟩ hg hr
  have hc : ∀ r, row = some r → ∃ o : Obj, A.heap[r]? = some o ∧ o.isCells = false := fun r e => (hr r e).2
  exact ⟨h0, bx_grown hg hc h1, bx_grown hg hc h2, bx_grown hg hc h3, bx_grown hg hc h4, h5.grown hg h5.size (fun k e => by have := (hr k e).1; omega), Nat.le_trans h6 hg.size⟩
theorem nstop_own {w : World} {B : Nat} {f : Int} {c : Code} (hB : w.heap.size ≤ B) : OwnFrom (B + 2) (NStop w f c) := by
  rintro pre A A' row ⟨h0, p, x, e1, e2, e3, h1, h2, h5, h6⟩ hg hr
  have hc : ∀ r, row = some r → ∃ o : Obj, A.heap[r]? = some o ∧ o.isCells = false := fun r e => (hr r e).2
  exact ⟨h0, p, x, e1, e2, e3, bx_grown hg hc h1, bx_grown hg hc h2, h5.grown hg h5.size (fun k e => by have := (hr k e).1; omega), Nat.le_trans h6 hg.size⟩
set_option maxRecDepth 100000 in
set_option maxHeartbeats 2000000 in
theorem tracks_any (ad : Addr) (L C : Nat) (w : World) : Calls Try.prog 37 #[.slice (some ad) L C] w fun e w' => e = .returned (.func (.func 51) #[] #[.pointer (some ⟨w.heap.size, 0, none⟩)]) ∧ w' = w.alloc (.cells #[.slice (some ad) L C] 22) := by
  go_enter Try.func37, Try.ntmps37
  go_wp2
  go_ret
  exact ⟨rfl, rfl⟩
theorem bx_new (w : World) (v : Value) (t : TypeId) : Bx (w.alloc (.cells #[v] t)) w.heap.size t v := World.alloc_heap_new w _
theorem bx_alloc {W : World} {b : Nat} {t : TypeId} {v : Value} (o : Obj) (h : Bx W b t v) : Bx (W.alloc o) b t v := (Below.heap_alloc _ _ _ (blk_lt' h)).trans h
theorem three (w : World) (f : Int) (W : World) (hW : ((w.alloc (.cells #[.int .i64 f] 3)).alloc (.cells #[.int .i64 0] 3)).alloc (.cells #[.int .i64 0] 23) = W) :
    W.heap.size = w.heap.size + 3 ∧ Below w.heap.size w W ∧ Bx W w.heap.size 3 (.int .i64 f) ∧ Bx W (w.heap.size + 1) 3 (.int .i64 0) ∧ Bx W (w.heap.size + 2) 23 (.int .i64 0) := by
  subst hW
  have e1 : (w.alloc (.cells #[.int .i64 f] 3)).heap.size = w.heap.size + 1 := World.size_alloc _ _
  have e2 : ((w.alloc (.cells #[.int .i64 f] 3)).alloc (.cells #[.int .i64 0] 3)).heap.size = w.heap.size + 2 := by rw [World.size_alloc, e1]
  refine ⟨by rw [World.size_alloc, e2], ?_, bx_alloc _ (bx_alloc _ (bx_new _ _ _)), bx_alloc _ (e1 ▸ bx_new _ _ _), e2 ▸ bx_new _ _ _⟩
  exact (((Below.refl _ w).alloc (Nat.le_refl _) _).alloc (by rw [e1]; omega) _).alloc (by rw [e2]; omega) _
theorem bx_set {W : World} {b : Nat} {t : TypeId} {v : Value} (v' : Value) (h : Bx W b t v) : Bx (W.setCell ⟨b, 0, none⟩ v') b t v' := heap_setCell_box_a _ h
theorem bx_other {W : World} {b c : Nat} {t : TypeId} {v : Value} (v' : Value) (hne : c ≠ b) (h : Bx W c t v) : Bx (W.setCell ⟨b, 0, none⟩ v') c t v := ((grownBy_setCell0_a W b v').block c (blk_lt' h) (by simpa using hne)).trans h
theorem below_set {w W : World} {N b : Nat} (v : Value) (h : Below N w W) (hN : N ≤ W.heap.size) (hb : N ≤ b) : Below N w (W.setCell ⟨b, 0, none⟩ v) := h.grown (grownBy_setCell0_a W b v) hN (fun k e => by cases e; exact hb)
theorem set_size (W : World) (b : Nat) (v : Value) : W.heap.size ≤ (W.setCell ⟨b, 0, none⟩ v).heap.size := (grownBy_setCell0_a W b v).size
theorem keeps_set {W : World} {N b : Nat} (v : Value) (hb : b < N) : KeepsFrom N W (W.setCell ⟨b, 0, none⟩ v) := KeepsFrom.of_grownBy (grownBy_setCell0_a W b v) (fun j e => by cases e; exact hb)
theorem kc_set {W : World} {N b : Nat} (v : Value) : KC N b W (W.setCell ⟨b, 0, none⟩ v) := fun c cs t fr _ hne hc => ((grownBy_setCell0_a W b v).block c (blk_lt' hc) (by simpa using hne)).trans hc
theorem load_box {W : World} {b : Nat} {t ty : TypeId} {v : Value} (hq : ∀ w, (isAgg ty).run Try.prog w = .ok false w) (h : Bx W b t v) : (loadVar ty ⟨b, 0, none⟩).run Try.prog W = .ok v W := by
  have hc := (cell_of_box_a h).1
  simp [loadVar, hq, hc, Sem.run_bind, Result.andThen]
theorem isAgg_int : (∀ w, (isAgg 3).run Try.prog w = .ok false w) ∧ (∀ w, (isAgg 23).run Try.prog w = .ok false w) := by
  constructor <;> intro w <;> rfl
theorem next_end {w W : World} {D s : Nat} {x : Int} {tmps : Array Value} (h6 : tmps.getD 6 undef = .pointer (some ⟨s + 1, 0, none⟩)) (h7 : tmps.getD 7 undef = .pointer (some ⟨s + 1 + 1, 0, none⟩)) (x1 : Bx W (s + 1) 3 (.int .i64 x)) (x2 : Bx W (s + 2) 23 (.int .i64 0))
    (hs : w.heap.size = s) (hb : Below w.heap.size w W) (hN : s ≤ W.heap.size) (hD : s ≤ D) (hK : W.heap[D]? = some (.deferred (some []))) :
    bodyPostM Fence.wide 7 Try.prog Try.f20 (fun e w' => e = .returned (.tuple #[.int .i64 x, .int .i64 0]) ∧ Below w.heap.size w w') .ret { tmps := tmps, defers := [{ target := .collected D, args := #[] }] } W := by
  refine ⟨by simp, .inl ⟨_, _, rfl, run_takeDeferred hK, ?_⟩⟩
  have hne : ∀ {b : Nat} {t : TypeId} {v : Value}, Bx W b t v → Bx (W.putObj D (.deferred none)) b t v := fun {b t v} h => by
    have : b ≠ D := by rintro rfl; have h' : W.heap[b]? = some (.cells #[v] t (0, 0)) := h; rw [hK] at h'; cases h'
    show (W.putObj D (.deferred none)).heap[b]? = _
    rw [World.putObj_heap_other this]; exact h
  have y1 := load_box isAgg_int.1 (hne x1)
  have y2 := load_box isAgg_int.2 (hne x2)
  have hs2 : s + 1 + 1 = s + 2 := rfl
  rw [hs2] at h7
  have h6' : tmps[6]?.getD undef = .pointer (some ⟨s + 1, 0, none⟩) := by simpa using h6
  have h7' : tmps[7]?.getD undef = .pointer (some ⟨s + 2, 0, none⟩) := by simpa using h7
  refine ⟨.tuple #[.int .i64 x, .int .i64 0], ?_, rfl, ?_⟩
  · simp [results, show Try.f20.results = #[.cell 6 3, .cell 7 23] from rfl, h6', h7', asAddr, y1, y2, Sem.run_bind, Result.andThen]
  · exact hb.grown (grownBy_putObj_a W D _) (by omega) (fun k e => by cases e; omega)
set_option maxRecDepth 100000 in
set_option maxHeartbeats 2000000 in
theorem next_any (n f : Int) (ad : Addr) (L C : Nat) (bs : List Int) (hL : bs.length = L) (hL2 : L ≤ 1000) (hby : ∀ x ∈ bs, 0 ≤ x ∧ x < 256) (w : World) (ha : ad.block < w.heap.size)
    (hc : ∀ j v, bs[j]? = some v → w.cell? (ad.add j) = some (.int .u8 v))
    (hHas : ∀ W, Below w.heap.size w W → Calls Try.prog 18 #[.int .i64 n, .slice (some ad) L C, .int .i64 f] W fun e W' => (∃ b, e = .returned (.tuple #[.bool b, .int .i64 0])) ∧ Below W.heap.size W W') :
    Calls Try.prog 20 #[.int .i64 n, .slice (some ad) L C, .int .i64 f] w fun e w' => e = .returned (.tuple #[.int .i64 (nextI f (trkF 0 bs)), .int .i64 0]) ∧ Below w.heap.size w w' := by
  refine (callsIn_wide (n := 7)).1 ?_
  refine callsIn_of_wp_marks Try.func20 rfl trivial ?_ rfl
  simp only [Try.ntmps20, List.size_toArray, List.length_cons, List.length_nil, Nat.reduceAdd, Nat.reduceSub, Array.replicate_succ, Array.replicate_zero, List.push_toArray, List.append_toArray, List.nil_append, List.cons_append]
  have HC := Hid.mk hc
  have HBY := Hid.mk hby
  have HH := Hid.mk hHas
  have HT := Hid.mk (tracks_any ad L C)
  clear hc hby hHas
  gi_wp2
  obtain ⟨W0, hW0⟩ : ∃ W0, ((w.alloc (.cells #[.int .i64 f] 3)).alloc (.cells #[.int .i64 0] 3)).alloc (.cells #[.int .i64 0] 23) = W0 := ⟨_, rfl⟩
  rw [hW0]
  obtain ⟨hs0, hb0, x0, x1, x2⟩ := three w f W0 hW0
  clear hW0
  refine ⟨trivial, callsIn_wide.2 ((HH.out _ hb0).mono ?_)⟩
  rintro e w1 ⟨⟨b, rfl⟩, hb1⟩
  have hs1 : w.heap.size + 3 ≤ w1.heap.size := by have := hb1.size; omega
  have hb1' : Below w.heap.size w w1 := hb0.trans (hb1.mono (by omega))
  have x0 := below_bx hb1 (by omega) x0
  have x1 := below_bx hb1 (by omega) x1
  have x2 := below_bx hb1 (by omega) x2
  clear hb1 hb0 hs0
  have HX := Hid.mk (And.intro x0 (And.intro x1 x2))
  clear x0 x1 x2
  gi_wp2
  refine ⟨trivial, callsIn_wide.2 ((HT.out _).mono ?_)⟩
  rintro e w2' ⟨rfl, h2⟩
  obtain ⟨w2, rfl⟩ : ∃ w2, w2' = w2 := ⟨_, rfl⟩
  have e1 : (w1.alloc (.cells #[.int .i64 (-1)] 3)).heap.size = w1.heap.size + 1 := World.size_alloc _ _
  have hs2 : w2'.heap.size = w1.heap.size + 2 := by rw [h2, World.size_alloc, e1]
  have hb12 : Below w1.heap.size w1 w2' := by
    rw [h2]; exact ((Below.refl _ w1).alloc (Nat.le_refl _) _).alloc (by rw [e1]; omega) _
  have y1 : Bx w2' w1.heap.size 3 (.int .i64 (-1)) := by rw [h2]; exact bx_alloc _ (bx_new _ _ _)
  have y2 : Bx w2' (w1.heap.size + 1) 22 (.slice (some ad) L C) := by rw [h2]; exact e1 ▸ bx_new _ _ _
  have x0 := below_bx hb12 (by omega) HX.out.1
  have x1 := below_bx hb12 (by omega) HX.out.2.1
  have x2 := below_bx hb12 (by omega) HX.out.2.2
  have hb2 : Below w.heap.size w w2' := hb1'.trans (hb12.mono (by omega))
  have h0 : NInv w w1.heap.size f [] w2' := ⟨fun y hy => by simp at hy, x0, x1, x2, y1, hb2, by omega⟩
  have HI := Hid.mk h0
  have HY := Hid.mk y2
  clear x0 x1 x2 y1 y2 h0 h2 hb12 hb1' HX e1
  gi_wp2
  refine wpIn_rangeFunc_ownG (F := Fence.wide) rfl (by decide) (gf := 51) (lb := #[.pointer (some ⟨w1.heap.size + 1, 0, none⟩)]) rfl trivial (enters_of Try.func51 (by kernel_rfl) rfl)
    (encs := fun x : Int => #[.int .i64 x]) (Kp := KC (w1.heap.size + 2) w1.heap.size) (S := fun ys => ys = trkF 0 bs) (Sp := fun pre => pre <+: trkF 0 bs) (N := (trkF 0 bs).length) (w0 := w2')
    ?seq (fun h k => h.trans k) (fun W l o o' _ hl ho _ => KC.put W l o o' hl ho) (Below.refl _ _) (fun _ => rfl)
    (NInv w w1.heap.size f) (NStop w f) (by rw [hs2]; exact ninv_own (by omega)) (fun _ => by rw [hs2]; exact nstop_own (by omega)) HI.out
    (fun x => { tmps := #[.int .i64 n, .slice (some ad) L C, .int .i64 f, undef, undef, .pointer (some ⟨w.heap.size, 0, none⟩), .pointer (some ⟨w.heap.size + 1, 0, none⟩), .pointer (some ⟨w.heap.size + 1 + 1, 0, none⟩), .bool b, .int .i64 0, .pointer (some ⟨w1.heap.size, 0, none⟩), .int .i64 x,
        .tuple #[.bool b, .int .i64 0], .int .i64 n, .slice (some ad) L C, .int .i64 f, .tuple #[.bool b, .int .i64 0], .bool b, .int .i64 0, .int .i64 0, .bool false, undef, .slice (some ad) L C, .func (.func 51) #[] #[.pointer (some ⟨w1.heap.size + 1, 0, none⟩)], .int .i64 x, undef, undef, undef, undef, undef, undef, undef, undef], defers := [] }) ?assign ?body ?done ?stop
  case seq =>
    intro l' J Jx W hW hJ hJx hY h0
    have hb : Below w.heap.size w W := hb2.trans (hW.mono (by omega))
    exact tracks_in Fence.wide 6 trivial trivial rfl (by decide) l' (w1.heap.size + 1) 0 (w1.heap.size + 2) w1.heap.size (by omega) (by omega) ad (by omega) (by omega) L C bs hL hL2 HBY.out J Jx hY W
      (cell_of_box_a (below_bx hW (by omega) HY.out)).1 (fun j v hv => (hb.cell (by rw [add_block]; exact ha)).trans (HC.out j v hv)) h0
  case assign =>
    intro l' x W K hK
    gi_wp2
    exact hK
  case body =>
    rintro l' pre x W ⟨i0, x0, x1, x2, y1, hb, hs⟩ hlt
    obtain ⟨c0, f0⟩ := cell_of_box_a x0
    obtain ⟨c1, f1⟩ := cell_of_box_a x1
    obtain ⟨c2, f2⟩ := cell_of_box_a x2
    obtain ⟨c3, f3⟩ := cell_of_box_a y1
    have HZ := Hid.mk (And.intro i0 (And.intro x0 (And.intro x1 (And.intro x2 (And.intro y1 hb)))))
    clear i0 x0 x1 x2 y1 hb hlt
    by_cases hx : f ≤ x
    · have hx' : (x : Int) ≥ f := hx
      gi_wp2
      obtain ⟨i0, x0, x1, x2, y1, hb⟩ := HZ.out
      refine ⟨(keeps_set _ (by omega)).trans (keeps_set _ (by omega)), rfl, pre, x, rfl, hx, i0, bx_other _ (by omega) (bx_set _ x1), bx_set _ (bx_other _ (by omega) x2), ?_, ?_⟩
      · exact below_set _ (below_set _ hb (by omega) (by omega)) (Nat.le_trans (by omega) (set_size W _ _)) (by omega)
      · exact Nat.le_trans (Nat.le_trans (by omega) (set_size W _ _)) (set_size _ _ _)
    · gi_wp2
      · rename_i hq
        obtain ⟨i0, x0, x1, x2, y1, hb⟩ := HZ.out
        refine ⟨keeps_set _ (by omega), kc_set _, ?_, bx_other _ (by omega) x0, bx_other _ (by omega) x1, bx_other _ (by omega) x2, ?_, below_set _ hb (by omega) (by omega), Nat.le_trans hs (set_size W _ _)⟩
        · intro y hy
          rcases List.mem_append.1 hy with hy | hy
          · exact i0 y hy
          · simp at hy; omega
        · rw [firstF_snoc, if_pos (by simpa using hq)]; exact bx_set _ y1
      · rename_i hq
        obtain ⟨i0, x0, x1, x2, y1, hb⟩ := HZ.out
        refine ⟨KeepsFrom.refl _ _, KC.refl _, ?_, x0, x1, x2, ?_, hb, hs⟩
        · intro y hy
          rcases List.mem_append.1 hy with hy | hy
          · exact i0 y hy
          · simp at hy; omega
        · rw [firstF_snoc, if_neg (by simpa using hq)]; exact y1
  case done =>
    rintro D ys W hD rfl ⟨i0, x0, x1, x2, y1, hb, hs⟩ hK
    obtain ⟨c0, f0⟩ := cell_of_box_a x0
    obtain ⟨c1, f1⟩ := cell_of_box_a x1
    obtain ⟨c2, f2⟩ := cell_of_box_a x2
    obtain ⟨c3, f3⟩ := cell_of_box_a y1
    have HZ := Hid.mk (And.intro i0 (And.intro x0 (And.intro x1 (And.intro x2 (And.intro y1 hb)))))
    have HK := Hid.mk hK
    clear i0 x0 x1 x2 y1 hb hK
    gi_wp2
    obtain ⟨i0, x0, x1, x2, y1, hb⟩ := HZ.out
    rw [nextI_none i0]
    have hne : D ≠ w.heap.size + 1 ∧ D ≠ w.heap.size + 2 := by omega
    refine next_end rfl rfl (bx_other _ (by omega) (bx_set _ x1)) (bx_set _ (bx_other _ (by omega) x2)) rfl (below_set _ (below_set _ hb (by omega) (by omega)) (Nat.le_trans (by omega) (set_size W _ _)) (by omega)) (Nat.le_trans (Nat.le_trans (by omega) (set_size W _ _)) (set_size _ _ _)) (by omega) ?_
    exact (Below.heap_setCell _ _ _ D (by show D ≠ w.heap.size + 1 + 1; omega)).trans ((Below.heap_setCell _ _ _ D hne.1).trans HK.out)
  case stop =>
    rintro D c pre W hD hpre ⟨rfl, p, x, rfl, e2, e3, x1, x2, hb, hs⟩ hK
    gi_wp2
    rw [nextI_stop hpre e2 e3]
    exact next_end rfl rfl x1 x2 rfl hb (by omega) (by omega) hK
end Go.Proofs.Ytifgifhbefhkmaa.BW
/- The machine of values: slices.Collect of tracks and bits.Next, contracts; functions that are carried out by another machine. No conditions. -/
namespace Go.Proofs.Ytifgifhbefhkmaa.VM
set_option linter.unusedSimpArgs false
set_option linter.unusedVariables false
open Go Go.RowKit
noncomputable section
def i64V (l : List Int) : V := .slI true (l.map (V.int .i64)) l.length false
theorem own_i64 {w : World} {B base : Nat} {O : Nat → Prop} (hB : B ≤ base) {v : Value} {x : List Int} (h : w.ownsRow base 3 1 v x.length (BW.ints x)) : Rel (Ew w B O) (i64V x) v := by
  refine own_rel hB h (RelL.of_get (by simp [BW.ints]) fun i a b ha hb => ?_)
  simp only [BW.ints, List.getElem?_map] at ha hb
  cases hx : x[i]? with
  | none => simp [hx] at ha
  | some y =>
    simp [hx] at ha hb
    subst ha hb
    exact .int _ _
def okBytes (l : List Int) : Bool := l.all fun x => decide (0 ≤ x) && decide (x < 256)
theorem okBytes_iff {l : List Int} : okBytes l = true ↔ ∀ x ∈ l, 0 ≤ x ∧ x < 256 := by
  unfold okBytes; simp [List.all_eq_true]
theorem B8_len : ∀ (f : Nat) (c : Int), (BW.B8 f c).length ≤ f
  | 0, _ => Nat.le_refl _
  | f + 1, c => by
    unfold BW.B8
    split
    · simp
    · have := B8_len f (BW.loI c); simp; omega
theorem trkF_len : ∀ (l : List Int) (i : Int), (BW.trkF i l).length ≤ 8 * l.length
  | [], _ => by simp [BW.trkF]
  | c :: l, i => by
    have h1 := trkF_len l (i + 1)
    have h2 := B8_len 8 c
    simp only [BW.trkF, List.length_append, List.length_map, List.length_cons]
    unfold BW.trkB
    omega
def collectG (_ : Nat) (vs : List V) : Option (V × List Blk) :=
  match vs with
  | [.func (.func 51) [] [.ptrI _ (.slI _ cs n _ :: _)]] => match u8s (cs.take n) with
    | some bs => if n ≤ cs.length ∧ 1 ≤ n ∧ n ≤ 1000 ∧ okBytes bs = true then some (i64V (BW.trkF 0 bs), []) else none
    | none => none
  | _ => none
theorem iso_fin {w : World} {O : Nat → Prop} {base : Nat} {rv : V} {cv : Value} {w' : World} (hb : Below w.heap.size w w') (hr : Rel (Ew w' w.heap.size O) rv cv) :
    ∃ cv' ρ, Ending.returned cv = .returned cv' ∧ Below w.heap.size w w' ∧ HRel ⟨w', newsF [] base (fun _ => none), ρ, w.heap.size, O⟩ ∧ Rel ⟨w', newsF [] base (fun _ => none), ρ, w.heap.size, O⟩ rv cv' ∧ ∀ b, ρ b ≠ none → base ≤ b ∧ b < base + ([] : List Blk).length :=
  ⟨_, fun _ => none, rfl, hb, ⟨(fun b blk hb => by cases hb), (fun b b' blk blk' e e' c o o' h1 => by cases h1), hb.size⟩, hr, fun b hb => absurd rfl hb⟩
theorem row_at {w : World} {B : Nat} {O : Nat → Prop} {fr tt : Bool} {cs : List V} {n : Nat} {cv : Value} {bs : List Int} (h : u8s (cs.take n) = some bs) (hn : n ≤ cs.length) (h1 : 1 ≤ n) (r : Rel (Ew w B O) (.slI fr cs n tt) cv) :
    ∃ ad cap, cv = .slice (some ad) n cap ∧ ad.block < w.heap.size ∧ bs.length = n ∧ ∀ j v, bs[j]? = some v → w.cell? (ad.add j) = some (.int .u8 v) := by
  generalize hN : n = N at r
  cases r with
  | slI0 => omega
  | @slI fr tight cs cvs n2 cap c o hs hf hnc ht hr hc =>
    subst hN
    have e1 := u8s_rel h (hr.take n)
    have hl := congrArg List.length e1
    have hrl := hr.length
    simp only [List.length_take, List.length_map] at hl
    refine ⟨⟨c, o, none⟩, cap, rfl, hs.1, by omega, fun j v hv => ?_⟩
    have h1 : (cvs.take n)[j]? = some (.int .u8 v) := by rw [e1, List.getElem?_map, hv]; rfl
    rw [List.getElem?_take] at h1
    split at h1
    · rw [Addr.add_lit]; exact hc j _ h1
    · cases h1
theorem collect_iso {base : Nat} {vs : List V} {rv : V} {blks : List Blk} (h : collectG base vs = some (rv, blks)) : IsoSound Try.prog 36 base vs rv blks := by
  intro w O cargs hargs
  unfold collectG at h
  split at h
  · rename_i fr fr2 cs n tt rest
    split at h
    · rename_i bs hbs
      split at h
      · rename_i hq
        obtain ⟨q1, q2, q3, q4⟩ := hq
        cases h
        cases hargs with
        | cons r s =>
          cases s
          cases r with
          | func _ rf rc =>
            cases rf
            cases rc with
            | cons rp rn =>
              cases rn
              cases rp with
              | @ptrI _ _ cvs c o hs hf hr hc =>
                cases hr with
                | @cons _ _ cv0 cvr r0 r1 =>
                  obtain ⟨ad, cap, rfl, ha, hl, hcell⟩ := row_at hbs q1 q2 r0
                  have h0 := hc 0 (.slice (some ad) n cap) (by simp)
                  have hlen := trkF_len bs 0
                  refine (BW.collect_any c o ad n cap bs hl q3 (okBytes_iff.1 q4) (by omega) w hs.1 ha h0 hcell).mono ?_
                  rintro e w' ⟨v, rfl, ho, hb⟩
                  exact iso_fin hb (own_i64 (Nat.le_refl _) ho)
      · cases h
    · cases h
  · cases h
theorem cell_below {w W : World} (hb : Below w.heap.size w W) {c i : Nat} (hc : c < w.heap.size) : W.cell? ⟨c, i, none⟩ = w.cell? ⟨c, i, none⟩ := by
  unfold World.cell?
  rw [hb.block c hc]
mutual
theorem Rel.widen {w W : World} {O : Nat → Prop} (hb : Below w.heap.size w W) : ∀ {v : V} {c : Value}, Rel (Ew w w.heap.size O) v c → Rel (Ew W W.heap.size fun _ => True) v c
  | _, _, .int k n => .int k n
  | _, _, .bool b => .bool b
  | _, _, .str s => .str s
  | _, _, .agg r => .agg (RelL.widen hb r)
  | _, _, .tup r => .tup (RelL.widen hb r)
  | _, _, .iface t r => .iface t (Rel.widen hb r)
  | _, _, .nilIface => .nilIface
  | _, _, .func fn r s => .func fn (RelL.widen hb r) (RelL.widen hb s)
  | _, _, .nilFunc => .nilFunc
  | _, _, .nilPtr => .nilPtr
  | _, _, .ptrI hs hf r hc => .ptrI ⟨Nat.lt_of_lt_of_le hs.1 hb.size, fun _ => trivial, fun b blk e o q => by cases q⟩ (fun q => absurd (hf q) (Nat.not_le.2 hs.1)) (RelL.widen hb r)
      (fun i v q => by have := hc i v q; rw [← this]; exact cell_below hb hs.1)
  | _, _, .ptrB he _ _ => by cases he
  | _, _, .nilSl => .nilSl
  | _, _, .slI0 q => .slI0 q
  | _, _, .slI hs hf hn ht r hc => .slI ⟨Nat.lt_of_lt_of_le hs.1 hb.size, fun _ => trivial, fun b blk e o q => by cases q⟩ (fun q => absurd (hf q) (Nat.not_le.2 hs.1)) hn ht (RelL.widen hb r)
      (fun i v q => by have := hc i v q; rw [← this]; exact cell_below hb hs.1)
  | _, _, .slB he _ _ => by cases he
theorem RelL.widen {w W : World} {O : Nat → Prop} (hb : Below w.heap.size w W) : ∀ {v : List V} {c : List Value}, RelL (Ew w w.heap.size O) v c → RelL (Ew W W.heap.size fun _ => True) v c
  | _, _, .nil => .nil
  | _, _, .cons r s => .cons (Rel.widen hb r) (RelL.widen hb s)
end
/-- bits.Next, where its question answers so. -/
def nextA (cf : Cfg) (k : Nat) (_ : Nat) (vs : List V) : Option (V × List Blk) :=
  match vs with
  | [.int .i64 n, .slI fr cs m tt, .int .i64 f] => match u8s (cs.take m) with
    | some bs => if m ≤ cs.length ∧ 1 ≤ m ∧ m ≤ 1000 ∧ okBytes bs = true then (match vcall Try.prog cf k 18 0 [.int .i64 n, .slI fr cs m tt, .int .i64 f] with
      | some (.tup [.bool b, .int .i64 e], []) => if e = 0 then some (.tup [.int .i64 (BW.nextI f (BW.trkF 0 bs)), .int .i64 0], []) else none
      | _ => none) else none
    | none => none
  | _ => none
theorem nextA_iso {cf : Cfg} (hext : ExtOK Try.prog cf) {k base : Nat} {vs : List V} {rv : V} {blks : List Blk} (h : nextA cf k base vs = some (rv, blks)) : IsoSound Try.prog 20 base vs rv blks := by
  intro w O cargs hargs
  unfold nextA at h
  split at h
  · rename_i n fr cs m tt f
    split at h
    · rename_i bs hbs
      split at h
      · rename_i hq
        obtain ⟨q1, q2, q3, q4⟩ := hq
        split at h
        · rename_i b e hv
          split at h
          · rename_i he
            subst he
            cases h
            have hargs0 := hargs
            cases hargs with
            | cons r1 s =>
              cases s with
              | cons r2 s =>
                cases s with
                | cons r3 s =>
                  cases s
                  cases r1
                  cases r3
                  obtain ⟨ad, cap, rfl, ha, hl, hcell⟩ := row_at hbs q1 q2 r2
                  refine (BW.next_any n f ad m cap bs hl q3 (okBytes_iff.1 q4) w ha hcell fun W hW => ?_).mono ?_
                  · refine (vcall_ok (P := Try.prog) (by kernel_rfl) hext k 18 0 _ _ _ hv W (fun _ => True) _ (RelL.widen hW hargs0)).mono fun e w' hp => ?_
                    obtain ⟨cv, ρ, he, hb, _, hr, _⟩ := hp
                    cases hr with
                    | tup hr =>
                      cases hr with
                      | cons h1 h2 =>
                        cases h2 with
                        | cons h2 h3 =>
                          cases h3
                          cases h1
                          cases h2
                          exact ⟨⟨_, he⟩, hb⟩
                  · rintro e w' ⟨rfl, hb⟩
                    exact iso_fin hb (.tup (.cons (.int _ _) (.cons (.int _ _) .nil)))
          · cases h
        · cases h
      · cases h
    · cases h
  · cases h
/-- bits.Next: by its question, or, where that is no, by the machine itself. -/
def nextF (cf : Cfg) (k base : Nat) (vs : List V) : Option (V × List Blk) :=
  match nextA cf k base vs with
  | some r => some r
  | none => vcall Try.prog cf k 20 base vs
theorem next_iso {cf : Cfg} (hext : ExtOK Try.prog cf) {k base : Nat} {vs : List V} {rv : V} {blks : List Blk} (h : nextF cf k base vs = some (rv, blks)) : IsoSound Try.prog 20 base vs rv blks := by
  unfold nextF at h
  split at h
  · rename_i r hr
    cases h
    exact nextA_iso hext hr
  · exact vcall_ok (by kernel_rfl) hext k 20 base vs rv blks h
/-! math/bits.OnesCount8, by a table. -/
def cfP : Cfg := ⟨fun _ => false, fun _ => false, fun _ => none⟩
def onesG (_ : Nat) (vs : List V) : Option (V × List Blk) :=
  match vs with
  | [.int .u8 c] => if 0 ≤ c ∧ c < 256 then some (.int .i64 ((BW.trkB c).length : Int), []) else none
  | _ => none
def onesC (x : Option (V × List Blk)) (n : Int) : Bool :=
  match x with
  | some (.int .i64 m, []) => decide (m = n)
  | _ => false
theorem onesC_of {x : Option (V × List Blk)} {n : Int} (h : onesC x n = true) : x = some (.int .i64 n, []) := by
  unfold onesC at h
  split at h
  · have := of_decide_eq_true h
    subst this; rfl
  · cases h
theorem ones_chk : ((List.range 256).all fun c => onesC (vcall Try.prog cfP 50 40 0 [.int .u8 (c : Int)]) ((BW.trkB (c : Int)).length : Int)) = true := by kernel_rfl
theorem ones_iso {base : Nat} {vs : List V} {rv : V} {blks : List Blk} (h : onesG base vs = some (rv, blks)) : IsoSound Try.prog 40 base vs rv blks := by
  unfold onesG at h
  split at h
  · rename_i c
    split at h
    · rename_i hc
      cases h
      refine iso_base ?_
      have h1 := List.all_eq_true.1 ones_chk c.toNat (List.mem_range.2 (by omega))
      have e : ((c.toNat : Nat) : Int) = c := by omega
      simp only [e] at h1
      exact vcall_ok (by kernel_rfl) extOK_none 50 40 0 _ _ _ (onesC_of h1)
    · cases h
  · cases h
/-! Functions that are carried out by another machine, in the end. -/
def Ends (F : Nat → Nat → List V → Option (V × List Blk)) (base : Nat) (vs : List V) (rv : V) : Prop := ∃ N, ∀ k, N ≤ k → F k base vs = some (rv, [])
theorem Ends.uniq {F : Nat → Nat → List V → Option (V × List Blk)} {base : Nat} {vs : List V} {a b : V} (h : Ends F base vs a) (g : Ends F base vs b) : a = b := by
  obtain ⟨N, h⟩ := h
  obtain ⟨M, g⟩ := g
  have h1 := h (max N M) (by omega)
  rw [g (max N M) (by omega)] at h1
  cases h1; rfl
open Classical in
def liftG (F : Nat → Nat → List V → Option (V × List Blk)) : Nat → List V → Option (V × List Blk) := fun base vs =>
  if h : ∃ rv, Ends F base vs rv then some (h.choose, []) else none
theorem liftG_of {F : Nat → Nat → List V → Option (V × List Blk)} {base : Nat} {vs : List V} {rv : V} (h : Ends F base vs rv) : liftG F base vs = some (rv, []) := by
  unfold liftG
  have hx : ∃ rv, Ends F base vs rv := ⟨rv, h⟩
  rw [dif_pos hx, Ends.uniq hx.choose_spec h]
theorem liftG_some {F : Nat → Nat → List V → Option (V × List Blk)} {base : Nat} {vs : List V} {rv : V} {blks : List Blk} (h : liftG F base vs = some (rv, blks)) : ∃ k, F k base vs = some (rv, blks) := by
  unfold liftG at h
  split at h
  · rename_i hx
    cases h
    obtain ⟨N, hN⟩ := hx.choose_spec
    exact ⟨N, hN N (Nat.le_refl _)⟩
  · cases h
/-- A function that is known to one machine is known to another that has it carried out there. -/
theorem ct_lift {P : Program} {cf cf' : Cfg} {f : FuncId} (hx : cf'.ext f = some (liftG fun k base vs => vcall P cf k f base vs)) {α : Type} {args : α → List SV} {pre : α → Prop} {res : α → SV} (h : CtOK P cf f (Ct args pre res)) : CtOK P cf' f (Ct args pre res) := by
  intro base bs K hK as' has vbase
  obtain ⟨a, h1, h2, h3⟩ := hK
  obtain ⟨rv, blks, srv, sblks, hN, ⟨g1, g1'⟩, g2, g3⟩ := h base bs (fun s b => K s b ∧ b = []) ⟨a, h1, h2, h3, rfl⟩ as' has vbase
  subst g1'
  cases g2
  refine ⟨rv, [], srv, [], ⟨0, fun n _ => ?_⟩, g1, .nil, g3⟩
  show callI P cf' _ f vbase as' = _
  unfold callI
  rw [hx]
  exact liftG_of hN
theorem lift_iso {P : Program} (hm : P.follows .mixedOrders = true) {cf : Cfg} (hext : ExtOK P cf) {f base : Nat} {vs : List V} {rv : V} {blks : List Blk} (h : liftG (fun k base vs => vcall P cf k f base vs) base vs = some (rv, blks)) : IsoSound P f base vs rv blks := by
  obtain ⟨k, hk⟩ := liftG_some h
  exact vcall_ok hm hext k f base vs rv blks hk
theorem lift_next {cf : Cfg} (hext : ExtOK Try.prog cf) {base : Nat} {vs : List V} {rv : V} {blks : List Blk} (h : liftG (nextF cf) base vs = some (rv, blks)) : IsoSound Try.prog 20 base vs rv blks := by
  obtain ⟨k, hk⟩ := liftG_some h
  exact next_iso hext hk
end
end Go.Proofs.Ytifgifhbefhkmaa.VM
