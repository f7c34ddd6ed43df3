/- num's inner function 'digits', walked: it lays a number's digits into a window of a block. -/
import Derived.Test.YtoklgobjbelmjaaProg
import Derived.Test.YtoklgobjbelmjaaWMore
import Derived.Test.YtoklgobjbelmjaaNumMath
import Derived.Laws.OwnMore
import Derived.IntWalk
import Derived.StillTailTactics
namespace Go.Proofs.Ytoklgobjbelmjaa.NumWalk
open Go.RowKit Go.Proofs.YtoklgobjbelmjaaW.PrintWords Go.Proofs.YtoklgobjbelmjaaW.PrintLast Go.Proofs.YtoklgobjbelmjaaW.PrintMore Go.Proofs.Ytoklgobjbelmjaa.NumMath Go.Proofs.Ytoklgobjbelmjaa.Kit
/-- Nothing but block g has changed. -/
structure Only (g : Nat) (w w' : World) : Prop where
  os : w'.os = w.os
  tape : w'.tape = w.tape
  output : w'.output = w.output
  size : w'.heap.size = w.heap.size
  block : ∀ k, k ≠ g → w'.heap[k]? = w.heap[k]?
theorem Only.refl (g : Nat) (w : World) : Only g w w := ⟨rfl, rfl, rfl, rfl, fun _ _ => rfl⟩
theorem Only.setCell {g : Nat} {w w' : World} (h : Only g w w') (i : Nat) (v : Value) : Only g w (w'.setCell ⟨g, i, none⟩ v) :=
  ⟨h.os, h.tape, h.output, by rw [← h.size]; simp [World.setCell], fun k hk => (Below.heap_setCell _ _ _ _ hk).trans (h.block k hk)⟩
/-- The cells of block g are those of C; but a window's last i are a number's last digits. -/
def digC (off n x i : Nat) (C : Array Value) (D : Array Value) : Prop :=
  D.size = C.size ∧ ∀ j, j < C.size → D[j]? = (if off + (n - i) ≤ j ∧ j < off + n then some (.int .u8 ((x / 256 ^ (off + n - 1 - j) % 256 : Nat) : Int)) else C[j]?)
def Dig (g off n x i : Nat) (C : Array Value) (w : World) : Prop := ∃ D : Array Value, w.heap[g]? = some (.cells D 5 (0, 0)) ∧ digC off n x i C D
theorem dig_start {g off n x : Nat} {C : Array Value} {w : World} (h : w.heap[g]? = some (.cells C 5 (0, 0))) : Dig g off n x 0 C w :=
  ⟨C, h, rfl, fun j _ => by rw [if_neg (by omega)]⟩
theorem dig_cell {g off n x i : Nat} {C : Array Value} {w : World} (h : Dig g off n x i C w) (hn : off + n ≤ C.size) (hC : ∀ i, i < C.size → ∃ z : Int, C[i]? = some (.int .u8 z)) (hi : i < n) :
    (∃ z : Int, w.cell? ⟨g, off + (n - 1 - i), none⟩ = some (.int .u8 z)) ∧ w.frozen? ⟨g, off + (n - 1 - i), none⟩ = false := by
  obtain ⟨D, hD, hs, hd⟩ := h
  refine ⟨?_, by simp [World.frozen?, hD]⟩
  obtain ⟨z, hz⟩ := hC (off + (n - 1 - i)) (by omega)
  refine ⟨z, ?_⟩
  have := hd (off + (n - 1 - i)) (by omega)
  rw [if_neg (by omega), hz] at this
  simp [World.cell?, hD, this]
theorem dig_step {g off n x i : Nat} {C : Array Value} {w : World} (h : Dig g off n x i C w) (hi : i < n) {y : Nat} (hy : y = x / 256 ^ i) :
    Dig g off n x (i + 1) C (w.setCell ⟨g, off + (n - 1 - i), none⟩ (.int .u8 ((y : Int) % 256))) := by
  obtain ⟨D, hD, hs, hd⟩ := h
  refine ⟨D.setIfInBounds (off + (n - 1 - i)) (.int .u8 ((y : Int) % 256)), by simp [World.setCell, Array.getElem?_modify, hD], by simp [hs], fun j hj => ?_⟩
  rw [Array.getElem?_setIfInBounds]
  by_cases hj2 : off + (n - 1 - i) = j
  · rw [if_pos hj2, if_pos (by omega), if_pos (by omega)]
    subst hj2 hy
    rw [show off + n - 1 - (off + (n - 1 - i)) = i by omega]
    simp
  · rw [if_neg hj2, hd j hj]
    by_cases h2 : off + (n - i) ≤ j ∧ j < off + n
    · rw [if_pos h2, if_pos (by omega)]
    · rw [if_neg h2, if_neg (by omega)]
theorem ret_bool {a b : Bool} (h : a = b) : Ending.returned (.bool a) = .returned (.bool b) := by rw [h]
set_option maxHeartbeats 400000 in
theorem digits_win (g off n c x : Nat) (C : Array Value) (w : World) (hb : w.heap[g]? = some (.cells C 5 (0, 0))) (hn : off + n ≤ C.size) (hC : ∀ i, i < C.size → ∃ z : Int, C[i]? = some (.int .u8 z)) (hx : x < 18446744073709551616) (hn8 : n ≤ 8) :
    Calls Try.prog 16 #[.slice (some ⟨g, off, none⟩) n c, .int .u64 x] w fun e w' => e = .returned (.bool (decide (x / 256 ^ n = 0))) ∧ Dig g off n x n C w' ∧ Only g w w' := by
  have HB := Aside0.mk (dig_start (off := off) (n := n) (x := x) hb)
  have HC := Aside0.mk hC
  clear hC hb
  go_enter Try.func16, Try.ntmps16
  go_wp2
  go_loopw [1, 8] (fun a i wr => ∃ k y : Nat, k ≤ n ∧ y ≤ x ∧ Aside0 (y = x / 256 ^ k) ∧ i = .int .i64 k ∧ a = .int .u64 (y : Int) ∧ Dig g off n x k C wr ∧ Only g w wr) (fun _ i _ => n - (intOf i).toNat)
  case atStart => exact ⟨0, x, by omega, by omega, ⟨by simp⟩, rfl, rfl, HB.out, Only.refl _ _⟩
  case round =>
    obtain ⟨k, y, hk, hyx, hy, rfl, rfl, hd, ho⟩ := hrel
    by_cases hlt : k < n
    · obtain ⟨⟨z, hz⟩, hf⟩ := dig_cell hd hn HC.out hlt
      have HD := Aside0.mk hd
      have HO := Aside0.mk ho
      clear hd ho
      have hy2 : y / 256 ≤ x := by omega
      go_wp2
      go_roundw
      case rel => exact ⟨k + 1, y / 256, by omega, hy2, ⟨by rw [hy.out, Nat.pow_succ, Nat.div_div_eq_div_mul]⟩, by go_num, by go_num, dig_step HD.out hlt hy.out, HO.out.setCell _ _⟩
      case measure => simp [intOf]; omega
    · obtain rfl : k = n := by omega
      have HD := Aside0.mk hd
      have HO := Aside0.mk ho
      clear hd ho
      go_wp2
      go_ret
      exact ⟨ret_bool (by rw [← hy.out]; rw [Bool.eq_iff_iff]; simp), HD.out, HO.out⟩
theorem cut_mid3 {P : Program} (t e : TypeId) (kh : IntKind) {i : TypeInfo} (ht : P.underlying t = some (.slice e)) (hi : P.info? e = some i) (hsz : i.size = 1) (g : Nat) (n c : Nat) (lo hi' : Int) (h0 : 0 ≤ lo) (h1 : lo < hi') (hc : hi' ≤ c) :
    ∀ W : World, (Instr.slice t (.slice (some ⟨g, 0, none⟩) n c) (some (.int kh lo)) (some (.int kh hi')) (some (.int kh hi'))).run P W = .ok (.slice (some ⟨g, lo.toNat, none⟩) (hi' - lo).toNat (hi' - lo).toNat) W := by
  intro W
  have hel : P.elem t = e := by simp [Program.elem, ht]
  have hu : P.underlying t = some (.slice (P.elem t)) := by rw [hel]; exact ht
  rw [run_slice_lhm W t (some ⟨g, 0, none⟩) n c hu kh kh kh lo hi' hi' h0 (by omega) (by omega) hc, hel]
  have ha : (⟨g, 0, none⟩ : Addr).add (lo.toNat * 1) = ⟨g, lo.toNat, none⟩ := by
    unfold Addr.add
    split
    · simp_all
    · simp
  simp [sizeOf, typeInfo, hi, hsz, sliced, Result.andThen, ← ha]
  refine ⟨?_, by omega⟩
  intro h
  omega

/-- The cells of the row under way: the first rows' digits, then bytes. -/
def Rowed (G : Nat) (m : Nat) (xs : List Int) (w : World) : Prop := ∃ D : Array Value, w.heap[G]? = some (.cells D 5 (0, 0)) ∧ D.size = m ∧ xs.length ≤ m ∧ (∀ i, i < D.size → ∃ z : Int, D[i]? = some (.int .u8 z)) ∧ ∀ i, i < xs.length → D[i]? = some (.int .u8 (xs.getD i 0))
theorem int_at {k : IntKind} {w : World} {ad : Addr} {xs : List Int} {i : Nat} (h : (Kd.int k).C w (some ad) xs.length xs) (hi : i < xs.length) : w.cell? (ad.add i) = some (.int k xs[i]) := by
  obtain ⟨ad1, e1, hx1⟩ := Kd.at_int h (i : Int) (by omega) (by omega)
  cases e1
  rw [Int.toNat_natCast, rd_get hi] at hx1
  exact hx1
theorem below_only {B G : Nat} {w wr w' : World} (h : Below B w wr) (ho : Only G wr w') (hB : B ≤ G) : Below B w w' :=
  h.trans ⟨ho.os, ho.tape, ho.output, by rw [ho.size]; exact Nat.le_refl _, fun k hk => ho.block k (by omega)⟩
theorem below_drew2 {B : Nat} {w wr : World} (h : Below B w wr) : Below B w wr.drew := below_drew1 h
theorem row_step {G m p q x : Nat} {xs : List Int} {D : Array Value} {w' : World} (hDs : D.size = m) (hp : xs.length = p) (hpq : p + q ≤ m) (hDb : ∀ i, i < D.size → ∃ z : Int, D[i]? = some (.int .u8 z)) (hDr : ∀ i, i < xs.length → D[i]? = some (.int .u8 (xs.getD i 0)))
    (h : Dig G p q x q D w') : Rowed G m (xs ++ dgs q x) w' := by
  obtain ⟨E, hE, hs, hd⟩ := h
  refine ⟨E, hE, hs.trans hDs, by rw [List.length_append, dgs_length]; omega, fun i hi => ?_, fun i hi => ?_⟩
  · rw [hd i (by omega)]
    split
    · exact ⟨_, rfl⟩
    · exact hDb i (by omega)
  · rw [List.length_append, dgs_length] at hi
    rw [hd i (by omega)]
    by_cases h1 : i < xs.length
    · rw [if_neg (by omega), hDr i h1, List.getD_eq_getElem?_getD, List.getD_eq_getElem?_getD, List.getElem?_append_left h1]
    · rw [if_pos (by omega), List.getD_eq_getElem?_getD, List.getElem?_append_right (by omega)]
      unfold dgs
      rw [List.getElem?_map, List.getElem?_range (by omega)]
      simp only [Option.map_some, Option.getD_some]
      rw [show p + q - 1 - i = q - 1 - (i - xs.length) by omega]
theorem row_end {G m base : Nat} {xs : List Int} {w' : World} (h : Rowed G m xs w') (hl : xs.length = m) (hb : base ≤ G) (hm : m ≤ 128) : Kd.R (Kd.int .u8) 5 w' base (fun _ => True) (.slice (some ⟨G, 0, none⟩) m m) xs := by
  obtain ⟨D, hD, hs, _, _, hr⟩ := h
  subst hl; refine Kd.R_of_own (h1 := fun _ => rfl) ⟨by simp [encs], .inr ⟨G, xs.length, D, rfl, hb, hD, Nat.le_refl _, by unfold maxLen; omega, by omega, ?_⟩⟩ (fun _ _ => trivial)
  refine List.ext_getElem? fun i => ?_
  rw [List.getElem?_take]
  by_cases hi : i < xs.length
  · rw [if_pos (by omega), Array.getElem?_toList, hr i (by omega)]
    simp [encs, List.getD_eq_getElem?_getD, List.getElem?_eq_getElem (show i < xs.length by omega)]
  · rw [if_neg (by omega)]
    exact (List.getElem?_eq_none (by rw [encs, List.length_map]; omega)).symm
end Go.Proofs.Ytoklgobjbelmjaa.NumWalk
