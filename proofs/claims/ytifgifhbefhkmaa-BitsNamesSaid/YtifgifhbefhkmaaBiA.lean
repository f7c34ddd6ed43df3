/- The iterator over a set's tracks: what comes, one a round. No conditions. -/
import Derived.RangeFuncNested
import Derived.RangeFuncWrites
import Derived.RangeFuncBound
import Derived.RangeFuncCalls
import Derived.RangeFuncLeaves
import Derived.RangeFuncBox
import Derived.Shelf.Abstract
import Derived.WalkKit
import Derived.OwnWalkIn
import Derived.TacticsInMore
import Derived.LoopNIn
import Derived.LoopIn
import Derived.Lib.QuietBelowIn
import Derived.Sort.QuietIn
import Derived.Lib.Walk
import Derived.KernelRfl
import Derived.Test.YtifgifhbefhkmaaProg
namespace Go.Proofs.Ytifgifhbefhkmaa.BW
open Go Go.RowKit Go.Shelf Go.Sort
attribute [local go_sem] Oper.semAt_some
set_option linter.unusedSimpArgs false
set_option linter.unusedVariables false
/-- Held aside. -/
structure Hid (p : Prop) : Prop where
  out : p
/-- All blocks of cells below N but g stay. -/
def KC (N g : Nat) (W W' : World) : Prop := ∀ b cs t fr, b < N → b ≠ g → W.heap[b]? = some (.cells cs t fr) → W'.heap[b]? = some (.cells cs t fr)
theorem KC.refl {N g : Nat} (A : World) : KC N g A A := fun _ _ _ _ _ _ h => h
theorem KC.trans {N g : Nat} {A B C : World} (h : KC N g A B) (k : KC N g B C) : KC N g A C := fun b cs t fr hN hb hc => k b cs t fr hN hb (h b cs t fr hN hb hc)
theorem KC.put {N g : Nat} (W : World) (l : Nat) (o o' : Obj) (hl : W.heap[l]? = some o) (ho : o.isCells = false) : KC N g W (W.putObj l o') := fun b cs t fr _ _ hc => by
  have hne : b ≠ l := by
    rintro rfl
    rw [hl] at hc
    cases hc
    cases ho
  rw [World.putObj_heap_other hne]
  exact hc
theorem blk_lt' {W : World} {b : Nat} {o : Obj} (h : W.heap[b]? = some o) : b < W.heap.size := (Array.getElem?_eq_some_iff.1 h).1
theorem KC.below {N g : Nat} {W W' : World} (h : Below W.heap.size W W') : KC N g W W' := fun _ _ _ _ _ _ hc => (h.block _ (blk_lt' hc)).trans hc
theorem KC.cell_at {N g : Nat} {W W' : World} (h : KC N g W W') {a : Addr} {v : Value} (hN : a.block < N) (hb : a.block ≠ g) (hc : W.cell? a = some v) : W'.cell? a = some v := by
  unfold World.cell? at hc ⊢
  cases hq : W.heap[a.block]? with
  | none => rw [hq] at hc; cases hc
  | some x =>
    cases x <;> rw [hq] at hc <;> first | (rw [h _ _ _ _ hN hb hq]; exact hc) | (simp at hc)
theorem add_block (a : Addr) (j : Nat) : (a.add j).block = a.block := by unfold Addr.add; split <;> rfl
/-- The place of the lowest bit. -/
def tzI (c : Int) : Int := if c % 2 = 1 then 0 else if c % 4 = 2 then 1 else if c % 8 = 4 then 2 else if c % 16 = 8 then 3 else if c % 32 = 16 then 4 else if c % 64 = 32 then 5 else if c % 128 = 64 then 6 else if c % 256 = 128 then 7 else 8
/-- Without the lowest bit. -/
def loI (c : Int) : Int := c - 2 ^ (tzI c).toNat
def B8 : Nat → Int → List Int
  | 0, _ => []
  | f + 1, c => if c = 0 then [] else tzI c :: B8 f (loI c)
def trkB (c : Int) : List Int := B8 8 c
def trkF (i : Int) : List Int → List Int
  | [] => []
  | c :: l => (trkB c).map (fun t => i * 8 + t) ++ trkF (i + 1) l
theorem step_fin : ∀ c : Fin 256, c.val ≠ 0 → trkB (c.val : Int) = tzI (c.val : Int) :: trkB (loI (c.val : Int)) ∧ 0 ≤ loI (c.val : Int) ∧ loI (c.val : Int) < (c.val : Int) ∧ Go.bits .and .u8 (c.val : Int) ((c.val : Int) - 1) = loI (c.val : Int) ∧ 0 ≤ tzI (c.val : Int) ∧ tzI (c.val : Int) < 8 := by decide +kernel
theorem step_any {c : Int} (h0 : 0 ≤ c) (h1 : c < 256) (hne : c ≠ 0) : trkB c = tzI c :: trkB (loI c) ∧ 0 ≤ loI c ∧ loI c < c ∧ Go.bits .and .u8 c (c - 1) = loI c ∧ 0 ≤ tzI c ∧ tzI c < 8 := by
  have := step_fin ⟨c.toNat, by omega⟩ (by show c.toNat ≠ 0; omega)
  have e : ((⟨c.toNat, by omega⟩ : Fin 256).val : Int) = c := by show ((c.toNat : Nat) : Int) = c; omega
  rw [e] at this
  exact this
def tzT : ByteArray := ⟨#[8, 0, 1, 0, 2, 0, 1, 0, 3, 0, 1, 0, 2, 0, 1, 0, 4, 0, 1, 0, 2, 0, 1, 0, 3, 0, 1, 0, 2, 0, 1, 0, 5, 0, 1, 0, 2, 0, 1, 0, 3, 0, 1, 0, 2, 0, 1, 0, 4, 0, 1, 0, 2, 0, 1, 0, 3, 0, 1, 0, 2, 0, 1, 0, 6, 0, 1, 0, 2, 0, 1, 0, 3, 0, 1, 0, 2, 0, 1, 0, 4, 0, 1, 0, 2, 0, 1, 0, 3, 0, 1, 0, 2, 0, 1, 0, 5, 0, 1, 0, 2, 0, 1, 0, 3, 0, 1, 0, 2, 0, 1, 0, 4, 0, 1, 0, 2, 0, 1, 0, 3, 0, 1, 0, 2, 0, 1, 0, 7, 0, 1, 0, 2, 0, 1, 0, 3, 0, 1, 0, 2, 0, 1, 0, 4, 0, 1, 0, 2, 0, 1, 0, 3, 0, 1, 0, 2, 0, 1, 0, 5, 0, 1, 0, 2, 0, 1, 0, 3, 0, 1, 0, 2, 0, 1, 0, 4, 0, 1, 0, 2, 0, 1, 0, 3, 0, 1, 0, 2, 0, 1, 0, 6, 0, 1, 0, 2, 0, 1, 0, 3, 0, 1, 0, 2, 0, 1, 0, 4, 0, 1, 0, 2, 0, 1, 0, 3, 0, 1, 0, 2, 0, 1, 0, 5, 0, 1, 0, 2, 0, 1, 0, 3, 0, 1, 0, 2, 0, 1, 0, 4, 0, 1, 0, 2, 0, 1, 0, 3, 0, 1, 0, 2, 0, 1, 0]⟩
theorem tzT_at : ∀ k : Fin 256, ∃ h : k.val < tzT.size, wrap64 ((tzT[k.val]'h).toNat : Int) = tzI (k.val : Int) := by
  have h : tzT.size = 256 := by decide +kernel
  have g : ∀ k : Fin 256, wrap64 ((tzT.data.getD k.val 0).toNat : Int) = tzI (k.val : Int) := by decide +kernel
  intro k
  have hk : k.val < tzT.size := by rw [h]; exact k.isLt
  refine ⟨hk, ?_⟩
  rw [← g k]
  have : tzT[k.val]'hk = tzT.data.getD k.val 0 := by
    show tzT.data[k.val]'hk = _
    have hk' : k.val < tzT.data.size := hk
    rw [Array.getD_eq_getD_getElem?, Array.getElem?_eq_getElem hk']
    rfl
  rw [this]
set_option maxRecDepth 100000 in
set_option maxHeartbeats 2000000 in
/-- math/bits.TrailingZeros8 -/
theorem tz_any (F : Fence) (n : Nat) (h52 : F.fn 52) (hro : F.round = none) (c : Nat) (hc : c < 256) (w : World) : CallsIn F n Try.prog 52 #[.int .u8 c] w fun e w' => e = .returned (.int .i64 (tzI c)) ∧ w' = w := by
  refine callsIn_of_wp Try.func52 rfl h52 ?_ hro
  simp only [Try.ntmps52, List.size_toArray, List.length_cons, List.length_nil, Nat.reduceAdd, Nat.reduceSub, Array.replicate_succ, Array.replicate_zero, List.push_toArray, List.append_toArray, List.nil_append, List.cons_append]
  gi_wp2
  go_ret
  obtain ⟨h1, h2⟩ := tzT_at ⟨c, hc⟩
  exact ⟨congrArg (fun z => Ending.returned (.int .i64 z)) h2, rfl⟩
set_option maxRecDepth 100000 in
set_option maxHeartbeats 2000000 in
/-- bits.tracks' function: the tracks come in order, one a round. -/
theorem tracks_in (F : Fence) (n : Nat) (h51 : F.fn 51) (h52 : F.fn 52) (hro : F.round = none) (hn : 2 ≤ n) (l Bn o N g : Nat) (hBN : Bn < N) (hne : Bn ≠ g) (ad : Addr) (haN : ad.block < N) (hag : ad.block ≠ g) (L C : Nat) (bs : List Int) (hL : bs.length = L) (hL2 : L ≤ 1000) (hby : ∀ x ∈ bs, 0 ≤ x ∧ x < 256) (J Jx : List Int → World → Prop)
    (hY : ∀ pre x W, J pre W → pre.length < (trkF 0 bs).length → YieldAt F (n - 1) Try.prog l #[.int .i64 x] W fun e W' =>
      (e = .returned (.bool true) ∧ J (pre ++ [x]) W' ∧ KC N g W W') ∨ (e = .returned (.bool false) ∧ Jx (pre ++ [x]) W'))
    (W : World) (hB0 : W.cell? ⟨Bn, o, none⟩ = some (.slice (some ad) L C)) (hc : ∀ j v, bs[j]? = some v → W.cell? (ad.add j) = some (.int .u8 v)) (h0 : J [] W) :
    CallsIn F n Try.prog 51 #[.func (.yield l) #[] #[], .pointer (some ⟨Bn, o, none⟩)] W fun e W' => (∃ v, e = .returned v) ∧
      ((∃ ys, ys = trkF 0 bs ∧ J ys W') ∨ (∃ pre, pre <+: trkF 0 bs ∧ Jx pre W')) := by
  refine callsIn_of_wp Try.func51 rfl h51 ?_ hro
  simp only [Try.ntmps51, List.size_toArray, List.length_cons, List.length_nil, Nat.reduceAdd, Nat.reduceSub, Array.replicate_succ, Array.replicate_zero, List.push_toArray, List.append_toArray, List.nil_append, List.cons_append]
  have HY := Hid.mk hY
  have HC := Hid.mk hc
  have HB := Hid.mk hby
  clear hY hc hby
  gi_wp2
  gi_loopw [7] (fun i wr => ∃ k : Nat, k ≤ L ∧ i = .int .i64 k ∧ Hid (KC N g W wr) ∧ Hid (∃ pre, J pre wr ∧ pre ++ trkF k (bs.drop k) = trkF 0 bs))
    (fun i _ => L - (intOf i).toNat)
  case atStart => exact ⟨0, by omega, rfl, ⟨KC.refl W⟩, ⟨[], h0, by simp⟩⟩
  case round =>
    obtain ⟨k, hk, rfl, hkc, hj⟩ := hrel
    by_cases hlt : k < L
    · have hlt' : k < bs.length := by omega
      obtain ⟨c, hcv⟩ : ∃ c, bs[k]? = some c := ⟨bs[k]'hlt', List.getElem?_eq_getElem hlt'⟩
      have hcb := HB.out c (List.mem_of_getElem? hcv)
      obtain ⟨cn, rfl⟩ : ∃ cn : Nat, c = cn := ⟨c.toNat, by omega⟩
      have cv : wr.cell? (ad.add k) = some (.int .u8 cn) := hkc.out.cell_at (by rw [add_block]; exact haN) (by rw [add_block]; exact hag) (HC.out k _ hcv)
      have hk64 : (k : Int) < (L : Int) := by omega
      have HD : Hid (bs.drop k = (cn : Int) :: bs.drop (k + 1)) := ⟨by rw [List.drop_eq_getElem_cons hlt']; congr 1; rw [List.getElem?_eq_getElem hlt'] at hcv; exact Option.some.inj hcv⟩
      have HCB := Hid.mk hcb
      clear hcv hcb
      gi_wp2
      gi_loopw [4] (fun i w2 => ∃ c : Nat, c < 256 ∧ i = .int .u8 c ∧ Hid (KC N g W w2) ∧ Hid (∃ pre, J pre w2 ∧ pre ++ ((trkB c).map (fun t => (k : Int) * 8 + t) ++ trkF ((k : Int) + 1) (bs.drop (k + 1))) = trkF 0 bs)) (fun i _ => (intOf i).toNat)
      case atStart =>
        refine ⟨cn, by have := HCB.out; omega, rfl, hkc, ⟨?_⟩⟩
        obtain ⟨pre, h1, h2⟩ := hj.out
        refine ⟨pre, h1, ?_⟩
        rw [HD.out] at h2
        exact h2
      case round =>

        obtain ⟨c, hc, rfl, hkc2, hj2⟩ := hrel
        clear hj hkc HCB HD cv
        by_cases hc0 : c = 0
        · subst hc0
          gi_wp2
          go_roundw
          case rel =>
            refine ⟨k + 1, by omega, by go_num, hkc2, ⟨?_⟩⟩
            obtain ⟨pre, h1, h2⟩ := hj2.out
            exact ⟨pre, h1, h2⟩
          case measure => simp [intOf]; omega
        · obtain ⟨pre, hJ1, heq⟩ := hj2.out
          obtain ⟨s1, s2, s3, s4, s5, s6⟩ := step_any (c := (c : Int)) (by omega) (by omega) (by omega)
          obtain ⟨z, hz⟩ : ∃ z, tzI (c : Int) = z := ⟨_, rfl⟩
          obtain ⟨lo, hlo⟩ : ∃ lo : Nat, loI (c : Int) = lo := ⟨(loI (c : Int)).toNat, by omega⟩
          rw [hz, hlo] at s1
          rw [hz] at s5 s6
          rw [hlo] at s2 s3 s4
          have HT := Hid.mk (fun m => tz_any F m h52 hro c hc)
          rw [hz] at HT
          have HEQ : Hid ((pre ++ [(k : Int) * 8 + z]) ++ ((trkB lo).map (fun t => (k : Int) * 8 + t) ++ trkF ((k : Int) + 1) (bs.drop (k + 1))) = trkF 0 bs) := ⟨by rw [← heq, s1]; simp⟩
          have hYY := HY.out pre ((k : Int) * 8 + z) wr hJ1 (by rw [← HEQ.out]; simp)
          obtain ⟨fn, tmps, assign, body, hy, hR⟩ := hYY
          have HR := Hid.mk hR
          have hc1 : ¬ (c : Int) = 0 := by omega
          clear hR heq hj2 s1 hz hlo hJ1
          gi_wp2
          refine ⟨fun _ => by omega, (HT.out _ _).mono ?_⟩
          rintro e w3 ⟨rfl, rfl⟩
          gi_wp2
          refine ⟨fun _ => by omega, HR.out.mono ?_⟩
          rintro e W3 h3
          obtain ⟨b, rfl, hb⟩ : ∃ b : Bool, e = .returned (.bool b) ∧ Hid ((b = true → J (pre ++ [(k : Int) * 8 + z]) W3 ∧ KC N g w3 W3) ∧ (b = false → Jx (pre ++ [(k : Int) * 8 + z]) W3)) := by
            rcases h3 with ⟨rfl, h4, h5⟩ | ⟨rfl, h4⟩
            · exact ⟨true, rfl, ⟨fun _ => ⟨h4, h5⟩, fun h => by cases h⟩⟩
            · exact ⟨false, rfl, ⟨fun h => (by cases h), fun _ => h4⟩⟩
          clear h3
          cases b with
          | false =>
            gi_wp2
            refine bodyPost_ret (results_none rfl _ _ _) rfl ?_
            exact ⟨⟨_, rfl⟩, .inr ⟨_, ⟨_, HEQ.out⟩, hb.out.2 trivial⟩⟩
          | true =>
            gi_wp2
            go_roundw
            case rel => exact ⟨lo, by omega, by go_num, ⟨hkc2.out.trans (hb.out.1 trivial).2⟩, ⟨_, (hb.out.1 trivial).1, HEQ.out⟩⟩
            case measure => simp [intOf]; omega
    · obtain rfl : k = L := by omega
      gi_wp2
      go_end0
      obtain ⟨pre, h1, h2⟩ := hj.out
      rw [List.drop_eq_nil_of_le (by omega)] at h2
      simp only [trkF, List.append_nil] at h2
      exact ⟨⟨_, rfl⟩, .inl ⟨_, h2, h1⟩⟩
end Go.Proofs.Ytifgifhbefhkmaa.BW
