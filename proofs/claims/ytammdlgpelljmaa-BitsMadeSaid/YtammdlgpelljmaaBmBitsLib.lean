/- The document's answers for layer 3, as plain formulas. -/
import Derived.Test.YtammdlgpelljmaaPBmx
import Derived.Test.YtammdlgpelljmaaPureKit
import Derived.Test.YtammdlgpelljmaaBitsWalkB
namespace Go.Proofs.Ytammdlgpelljmaa.BmBitsLib
open Go.RowKit Go.Proofs.Ytammdlgpelljmaa.PBm Go.Proofs.YtammdlgpelljmaaW.PrintWords Go.Proofs.YtammdlgpelljmaaW.PrintLast Go.Proofs.Ytammdlgpelljmaa.Kit Go.Proofs.Ytammdlgpelljmaa.BitsWalk
theorem wf_i64 {x : Int} (h : (Lit.int .i64 x).wf = true) : -9223372036854775808 ≤ x ∧ x ≤ 9223372036854775807 := by
  have h2 : IntKind.i64.min ≤ x ∧ x ≤ 9223372036854775807 := by simpa [Lit.wf] using h
  have h3 : IntKind.i64.min = -9223372036854775808 := by decide
  omega
theorem LeO_iter {α : Type} {f : Nat → Option α} (h : ∀ k, LeO (f k) (f (k + 1))) {k : Nat} {r : α} (hk : f k = some r) : ∀ d, f (k + d) = some r
  | 0 => hk
  | d + 1 => h (k + d) r (LeO_iter h hk d)
theorem LeO_up {α : Type} {f : Nat → Option α} (h : ∀ k, LeO (f k) (f (k + 1))) {k j : Nat} {r : α} (hk : f k = some r) (hj : k ≤ j) : f j = some r := by
  have := LeO_iter h hk (j - k)
  rwa [show k + (j - k) = j by omega] at this
/-! Sets as functions -/
def pk (a b c d e f g h : Bool) : Int := (if a then 1 else 0) + (if b then 2 else 0) + (if c then 4 else 0) + (if d then 8 else 0) + (if e then 16 else 0) + (if f then 32 else 0) + (if g then 64 else 0) + (if h then 128 else 0)
def byteOf (f : Nat → Bool) (j : Nat) : Int := pk (f (8 * j)) (f (8 * j + 1)) (f (8 * j + 2)) (f (8 * j + 3)) (f (8 * j + 4)) (f (8 * j + 5)) (f (8 * j + 6)) (f (8 * j + 7))
def pack (m : Nat) (f : Nat → Bool) : List Int := (List.range m).map (byteOf f)
def upd (f : Nat → Bool) (t : Nat) (b : Bool) : Nat → Bool := fun i => if i = t then b else f i
theorem pack_length (m : Nat) (f : Nat → Bool) : (pack m f).length = m := by simp [pack]
theorem rd_pack {m j : Nat} (f : Nat → Bool) (h : j < m) : rd (pack m f) (j : Int) = byteOf f j := by
  rw [rd_get (by rw [pack_length]; exact h)]
  simp [pack]
theorem byte_far {f : Nat → Bool} {t j : Nat} (b : Bool) (h : j ≠ t / 8) : byteOf (upd f t b) j = byteOf f j := by
  have h0 : ∀ i, i < 8 → upd f t b (8 * j + i) = f (8 * j + i) := fun i hi => if_neg (by omega)
  unfold byteOf
  rw [h0 1 (by omega), h0 2 (by omega), h0 3 (by omega), h0 4 (by omega), h0 5 (by omega), h0 6 (by omega), h0 7 (by omega)]
  have := h0 0 (by omega)
  rw [Nat.add_zero] at this
  rw [this]
theorem pack_set {m t : Nat} (f : Nat → Bool) (b : Bool) {v : Int} (hv : v = byteOf (upd f t b) (t / 8)) : (pack m f).set (t / 8) v = pack m (upd f t b) := by
  apply List.ext_getElem
  · simp [pack_length]
  · intro j h1 h2
    rw [List.getElem_set]
    by_cases hj : t / 8 = j
    · rw [if_pos hj, hv]; simp [pack, hj]
    · rw [if_neg hj]
      simp only [pack, List.getElem_map, List.getElem_range]
      exact (byte_far b (fun h => hj h.symm)).symm
theorem pk_or : ∀ a b c d e f g h : Bool, Go.bits .or .u8 (pk a b c d e f g h) 1 = pk true b c d e f g h ∧ Go.bits .or .u8 (pk a b c d e f g h) 2 = pk a true c d e f g h ∧ Go.bits .or .u8 (pk a b c d e f g h) 4 = pk a b true d e f g h ∧ Go.bits .or .u8 (pk a b c d e f g h) 8 = pk a b c true e f g h ∧ Go.bits .or .u8 (pk a b c d e f g h) 16 = pk a b c d true f g h ∧ Go.bits .or .u8 (pk a b c d e f g h) 32 = pk a b c d e true g h ∧ Go.bits .or .u8 (pk a b c d e f g h) 64 = pk a b c d e f true h ∧ Go.bits .or .u8 (pk a b c d e f g h) 128 = pk a b c d e f g true := by decide +kernel
theorem pk_add : ∀ a b c d e f g h : Bool, (a = false → (pk a b c d e f g h + 1 % 256) % 256 = pk true b c d e f g h) ∧ (b = false → (pk a b c d e f g h + 2 % 256) % 256 = pk a true c d e f g h) ∧ (c = false → (pk a b c d e f g h + 4 % 256) % 256 = pk a b true d e f g h) ∧ (d = false → (pk a b c d e f g h + 8 % 256) % 256 = pk a b c true e f g h) ∧ (e = false → (pk a b c d e f g h + 16 % 256) % 256 = pk a b c d true f g h) ∧ (f = false → (pk a b c d e f g h + 32 % 256) % 256 = pk a b c d e true g h) ∧ (g = false → (pk a b c d e f g h + 64 % 256) % 256 = pk a b c d e f true h) ∧ (h = false → (pk a b c d e f g h + 128 % 256) % 256 = pk a b c d e f g true) := by decide +kernel
theorem byte_or (f : Nat → Bool) (t : Nat) : Go.bits .or .u8 (byteOf f (t / 8)) (2 ^ (t % 8)) = byteOf (upd f t true) (t / 8) := by
  obtain ⟨j, hj⟩ : ∃ j, j = t / 8 := ⟨_, rfl⟩
  obtain ⟨p1, p2, p3, p4, p5, p6, p7, p8⟩ := pk_or (f (8 * j)) (f (8 * j + 1)) (f (8 * j + 2)) (f (8 * j + 3)) (f (8 * j + 4)) (f (8 * j + 5)) (f (8 * j + 6)) (f (8 * j + 7))
  rw [← hj]
  rcases (by omega : t = 8 * j ∨ t = 8 * j + 1 ∨ t = 8 * j + 2 ∨ t = 8 * j + 3 ∨ t = 8 * j + 4 ∨ t = 8 * j + 5 ∨ t = 8 * j + 6 ∨ t = 8 * j + 7) with h | h | h | h | h | h | h | h
  · rw [show t % 8 = 0 by omega, h]; simpa [byteOf, upd] using p1
  · rw [show t % 8 = 1 by omega, h]; simpa [byteOf, upd] using p2
  · rw [show t % 8 = 2 by omega, h]; simpa [byteOf, upd] using p3
  · rw [show t % 8 = 3 by omega, h]; simpa [byteOf, upd] using p4
  · rw [show t % 8 = 4 by omega, h]; simpa [byteOf, upd] using p5
  · rw [show t % 8 = 5 by omega, h]; simpa [byteOf, upd] using p6
  · rw [show t % 8 = 6 by omega, h]; simpa [byteOf, upd] using p7
  · rw [show t % 8 = 7 by omega, h]; simpa [byteOf, upd] using p8
theorem byte_add (f : Nat → Bool) (t : Nat) (hf : f t = false) : (byteOf f (t / 8) + (2 ^ (t % 8)) % 256) % 256 = byteOf (upd f t true) (t / 8) := by
  obtain ⟨j, hj⟩ : ∃ j, j = t / 8 := ⟨_, rfl⟩
  obtain ⟨p1, p2, p3, p4, p5, p6, p7, p8⟩ := pk_add (f (8 * j)) (f (8 * j + 1)) (f (8 * j + 2)) (f (8 * j + 3)) (f (8 * j + 4)) (f (8 * j + 5)) (f (8 * j + 6)) (f (8 * j + 7))
  rw [← hj]
  rcases (by omega : t = 8 * j ∨ t = 8 * j + 1 ∨ t = 8 * j + 2 ∨ t = 8 * j + 3 ∨ t = 8 * j + 4 ∨ t = 8 * j + 5 ∨ t = 8 * j + 6 ∨ t = 8 * j + 7) with h | h | h | h | h | h | h | h
  · rw [show t % 8 = 0 by omega, h]; rw [h] at hf; simpa [byteOf, upd] using p1 hf
  · rw [show t % 8 = 1 by omega, h]; rw [h] at hf; simpa [byteOf, upd] using p2 hf
  · rw [show t % 8 = 2 by omega, h]; rw [h] at hf; simpa [byteOf, upd] using p3 hf
  · rw [show t % 8 = 3 by omega, h]; rw [h] at hf; simpa [byteOf, upd] using p4 hf
  · rw [show t % 8 = 4 by omega, h]; rw [h] at hf; simpa [byteOf, upd] using p5 hf
  · rw [show t % 8 = 5 by omega, h]; rw [h] at hf; simpa [byteOf, upd] using p6 hf
  · rw [show t % 8 = 6 by omega, h]; rw [h] at hf; simpa [byteOf, upd] using p7 hf
  · rw [show t % 8 = 7 by omega, h]; rw [h] at hf; simpa [byteOf, upd] using p8 hf
theorem orT_pack {m t : Nat} (f : Nat → Bool) (ht : t / 8 < m) : orT (pack m f) (t : Int) = pack m (upd f t true) := by
  unfold orT
  rw [show (t : Int) / 8 = ((t / 8 : Nat) : Int) by omega, show (t : Int) % 8 = ((t % 8 : Nat) : Int) by omega, rd_pack f ht, Int.toNat_natCast, Int.toNat_natCast]
  exact pack_set f true (byte_or f t)
theorem pack_none (m : Nat) : List.replicate m (0 : Int) = pack m (fun _ => false) := by
  apply List.ext_getElem
  · simp [pack_length]
  · intro j h1 h2
    simp [pack, byteOf, pk]
theorem upd_getD {l : List Bool} {t : Nat} (ht : t < l.length) (b : Bool) : (fun i => (l.set t b).getD i false) = upd (fun i => l.getD i false) t b := by
  funext i
  unfold upd
  simp only [List.getD_eq_getElem?_getD, List.getElem?_set]
  by_cases h : i = t
  · subst h; simp [ht]
  · rw [if_neg h, if_neg (fun e => h e.symm)]
/-! The document's functions -/
theorem power_closed : ∀ i : Fin 8, catamaranref03_power.f 10 ((i : Nat) : Int) = some (2 ^ (i : Nat)) := by decide +kernel
theorem power_ok {k i : Nat} (hi : i < 8) (hk : 9 < k) : catamaranref03_power.f k (i : Int) = some (2 ^ i) :=
  LeO_up (fun k => catamaranref03_power.mono _ k) (power_closed ⟨i, hi⟩) (by omega)
theorem size_ok (n : Int) : catamaranref03_Size.f n = some (decide (1 ≤ n ∧ n ≤ 16)) := by
  unfold catamaranref03_Size.f
  by_cases h : n ≥ 1
  · rw [if_pos h]
    by_cases h2 : n ≤ 16
    · rw [decide_eq_true h2, decide_eq_true ⟨h, h2⟩]
    · rw [decide_eq_false h2, decide_eq_false (fun k => h2 k.2)]
  · rw [if_neg h, decide_eq_false (fun k => h k.1)]
/-- So far. -/
def sofar (l : List Bool) (t : Nat) : Nat → Bool := fun i => decide (i < t) && l.getD i false
theorem sofar_all {l : List Bool} : sofar l l.length = fun i => l.getD i false := by
  funext i
  unfold sofar
  by_cases h : i < l.length
  · simp [h]
  · simp [h]
theorem sofar_next {l : List Bool} {t : Nat} : sofar l (t + 1) = upd (sofar l t) t (l.getD t false) := by
  funext i
  unfold sofar upd
  by_cases h : i = t
  · subst h; simp
  · rw [if_neg h]
    show (decide (i < t + 1) && l.getD i false) = (decide (i < t) && l.getD i false)
    by_cases h2 : i < t
    · rw [decide_eq_true h2, decide_eq_true (by omega)]
    · rw [decide_eq_false h2, decide_eq_false (by omega)]
theorem sofar_here {l : List Bool} {t : Nat} : sofar l t t = false := by simp [sofar]
theorem made_l0 (is : List Bool) (m : Nat) (hm : is.length ≤ 8 * m) (h16 : is.length ≤ 1000) : ∀ d t k, t + d = is.length → d + 10 < k → catamaranref03_Made.l0 k is.length is (pack m (sofar is t)) t = some (pack m (fun i => is.getD i false))
  | 0, t, k, ht, hk => by
    obtain ⟨q, rfl⟩ : ∃ q, k = q + 1 := ⟨k - 1, by omega⟩
    rw [catamaranref03_Made.l0, if_neg (by omega), show t = is.length by omega, sofar_all]
  | d + 1, t, k, ht, hk => by
    obtain ⟨q, rfl⟩ : ∃ q, k = q + 1 := ⟨k - 1, by omega⟩
    have ih := made_l0 is m hm h16 d (t + 1) q (by omega) (by omega)
    have hw : wrap64 ((t : Int) + 1) = ((t + 1 : Nat) : Int) := by rw [w64 (by omega) (by omega)]; omega
    have hq : wrap64 (Int.tdiv (t : Int) 8) = ((t / 8 : Nat) : Int) := by
      rw [Int.tdiv_eq_ediv_of_nonneg (by omega), w64 (by omega) (by omega)]; omega
    have hr : Int.tmod (t : Int) 8 = ((t % 8 : Nat) : Int) := by
      rw [Int.tmod_eq_emod_of_nonneg (by omega)]; omega
    have hd : rdOf false is (t : Int) = is.getD t false := by simp [rdOf]
    rw [sofar_next] at ih
    rw [catamaranref03_Made.l0, if_pos (by omega), if_pos (by omega), if_pos (by omega), hd, hw, hq, hr]
    by_cases hb : is.getD t false = true
    · rw [hb] at ih
      rw [if_pos hb, if_pos (by omega), if_pos (by rw [pack_length]; omega), power_ok (by omega) (by omega), Option.bind_some, rd_pack _ (by omega), Int.toNat_natCast, byte_add _ _ sofar_here, pack_set _ true rfl]
      exact ih
    · rw [if_neg hb]
      rw [Bool.not_eq_true] at hb
      rw [hb] at ih
      have he : upd (sofar is t) t false = sofar is t := by
        funext i
        unfold upd
        by_cases h : i = t
        · subst h; rw [if_pos rfl, sofar_here]
        · rw [if_neg h]
      rw [he] at ih
      exact ih
theorem pages_ok {n : Nat} (h : n ≤ 1000) : wrap64 (Int.tdiv (wrap64 ((wrap64 ((n : Int) + 8)) - 1)) 8) = (((n + 7) / 8 : Nat) : Int) := by
  rw [w64 (x := (n : Int) + 8) (by omega) (by omega), w64 (x := (n : Int) + 8 - 1) (by omega) (by omega), Int.tdiv_eq_ediv_of_nonneg (by omega), w64 (by omega) (by omega)]
  omega
theorem made_ok {is : List Bool} {k : Nat} (h : is.length ≤ 1000) (hk : is.length + 10 < k) : catamaranref03_Made.f k is.length is = some (pack ((is.length + 7) / 8) (fun i => is.getD i false)) := by
  unfold catamaranref03_Made.f
  rw [pages_ok h, if_pos (by omega), Int.toNat_natCast, if_pos (by omega), pack_none]
  have h0 : (fun _ => false) = sofar is 0 := by funext i; simp [sofar]
  rw [h0]
  exact made_l0 is _ (by omega) h is.length 0 k (by omega) (by omega)
theorem allI_length {n : Nat} (h1 : 1 ≤ n) (h : n ≤ 16) : (allI (n : Int)).length = (n + 7) / 8 := by
  unfold allI
  by_cases h8 : n ≤ 8
  · rw [if_pos (by omega)]; simp; omega
  · rw [if_neg (by omega)]; simp; omega
end Go.Proofs.Ytammdlgpelljmaa.BmBitsLib
