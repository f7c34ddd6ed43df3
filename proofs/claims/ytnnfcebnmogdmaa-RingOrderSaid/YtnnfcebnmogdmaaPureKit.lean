/- Small words for the plain statements: bytes as numbers, equal texts, rounds. No program here. -/
import Derived.Test.YtnnfcebnmogdmaaWMore
import Derived.Lib.Bytes
namespace Go.Proofs.Ytnnfcebnmogdmaa.Kit
open Go.RowKit Go.Proofs.YtnnfcebnmogdmaaW.PrintWords
/-- All of a list's numbers are bytes. -/
def By (l : List Int) : Prop := ∀ x ∈ l, 0 ≤ x ∧ x < 256
theorem By.of_wf {l : List Int} (h : ∀ x ∈ l, (Lit.int .u8 x).wf = true) : By l := by
  intro x hx
  have := h x hx
  simp [Lit.wf, IntKind.min, IntKind.max, IntKind.bits, IntKind.signed] at this
  omega
theorem By.nil : By [] := fun _ h => by cases h
theorem By.append {a b : List Int} (ha : By a) (hb : By b) : By (a ++ b) := fun x hx => (List.mem_append.1 hx).elim (ha x) (hb x)
theorem By.left {a b : List Int} (h : By (a ++ b)) : By a := fun x hx => h x (List.mem_append_left _ hx)
theorem By.right {a b : List Int} (h : By (a ++ b)) : By b := fun x hx => h x (List.mem_append_right _ hx)
theorem By.take {a : List Int} (h : By a) (n : Nat) : By (a.take n) := fun x hx => h x (List.mem_of_mem_take hx)
theorem By.drop {a : List Int} (h : By a) (n : Nat) : By (a.drop n) := fun x hx => h x (List.mem_of_mem_drop hx)
theorem By.cons {x : Int} {a : List Int} (h0 : 0 ≤ x) (h1 : x < 256) (h : By a) : By (x :: a) := fun y hy => by
  rcases List.mem_cons.1 hy with rfl | hy
  · exact ⟨h0, h1⟩
  · exact h y hy
theorem By.set {a : List Int} (h : By a) (n : Nat) {x : Int} (h0 : 0 ≤ x) (h1 : x < 256) : By (a.set n x) := fun y hy => by
  rcases List.mem_or_eq_of_mem_set hy with hy | rfl
  · exact h y hy
  · exact ⟨h0, h1⟩
theorem By.replicate (n : Nat) {x : Int} (h0 : 0 ≤ x) (h1 : x < 256) : By (List.replicate n x) := fun y hy => by
  rw [List.eq_of_mem_replicate hy]; exact ⟨h0, h1⟩
def Nb (l : List Int) : List Nat := l.map Int.toNat
def Ib (l : List Nat) : List Int := l.map fun n => Int.ofNat n
theorem Nb_lt {l : List Int} (h : By l) : ∀ x ∈ Nb l, x < 256 := by
  intro x hx
  obtain ⟨y, hy, rfl⟩ := List.mem_map.1 hx
  have := h y hy
  omega
theorem Nb_length (l : List Int) : (Nb l).length = l.length := by simp [Nb]
theorem Ib_length (l : List Nat) : (Ib l).length = l.length := by simp [Ib]
theorem Nb_Ib (l : List Nat) : Nb (Ib l) = l := by
  unfold Nb Ib
  rw [List.map_map]
  conv => rhs; rw [← List.map_id l]
  exact List.map_congr_left fun _ _ => rfl
theorem Ib_Nb {l : List Int} (h : By l) : Ib (Nb l) = l := by
  unfold Nb Ib
  rw [List.map_map]
  conv => rhs; rw [← List.map_id l]
  refine List.map_congr_left fun x hx => ?_
  have := h x hx
  show ((x.toNat : Nat) : Int) = x
  omega
theorem Nb_append (a b : List Int) : Nb (a ++ b) = Nb a ++ Nb b := by simp [Nb]
theorem Ib_append (a b : List Nat) : Ib (a ++ b) = Ib a ++ Ib b := by simp [Ib]
theorem By_Ib {l : List Nat} (h : ∀ x ∈ l, x < 256) : By (Ib l) := by
  intro x hx
  obtain ⟨y, hy, rfl⟩ := List.mem_map.1 hx
  have := h y hy
  simp only [Int.ofNat_eq_natCast]
  omega
theorem Nb_inj {a b : List Int} (ha : By a) (hb : By b) (h : Nb a = Nb b) : a = b := by rw [← Ib_Nb ha, ← Ib_Nb hb, h]
/-- Equal strings are equal bytes. -/
theorem str_inj {a b : List Int} (ha : By a) (hb : By b) : (strOfNums a).toList = (strOfNums b).toList ↔ a = b := by
  refine ⟨fun h => ?_, fun h => by rw [h]⟩
  rw [Lib.strOfNums_toList, Lib.strOfNums_toList] at h
  have hl : a.length = b.length := by
    have := congrArg List.length h
    simpa [Lib.bytesOf] using this
  refine List.ext_getElem hl fun i h1 h2 => ?_
  have h3 : (a.map fun n => UInt8.ofNat n.toNat)[i]? = (b.map fun n => UInt8.ofNat n.toNat)[i]? := congrArg (fun l => l[i]?) h
  rw [List.getElem?_map, List.getElem?_map, List.getElem?_eq_getElem h1, List.getElem?_eq_getElem h2] at h3
  simp only [Option.map_some, Option.some.injEq] at h3
  have h4 := congrArg UInt8.toNat h3
  simp only [UInt8.toNat_ofNat'] at h4
  have := ha _ (List.getElem_mem h1)
  have := hb _ (List.getElem_mem h2)
  omega
theorem str_beq {a b : List Int} (ha : By a) (hb : By b) : ((strOfNums a).toList == (strOfNums b).toList) = (a == b) := by
  rw [Bool.eq_iff_iff, beq_iff_eq, beq_iff_eq]; exact str_inj ha hb
theorem str_refl (a : List Int) : ((strOfNums a).toList == (strOfNums a).toList) = true := beq_iff_eq.2 rfl
theorem rd_get {l : List Int} {i : Nat} (h : i < l.length) : rd l (i : Int) = l[i] := by
  unfold rd
  rw [Int.toNat_natCast, List.getD_eq_getElem?_getD, List.getElem?_eq_getElem h]; rfl
theorem snoc_ind {α : Type} {p : List α → Prop} (h0 : p []) (h1 : ∀ l x, p l → p (l ++ [x])) (l : List α) : p l := by
  have h : ∀ r : List α, p r.reverse := by
    intro r
    induction r with
    | nil => exact h0
    | cons x r ih => rw [List.reverse_cons]; exact h1 _ _ ih
  have := h l.reverse
  rwa [List.reverse_reverse] at this
theorem set_get {α : Type} {l : List α} {i : Nat} {x : α} (h : l[i]? = some x) : l.set i x = l := by
  refine List.ext_getElem? fun j => ?_
  by_cases hj : i = j
  · subst hj
    rw [h, List.getElem?_set_self (List.getElem?_eq_some_iff.1 h).1]
  · rw [List.getElem?_set_ne hj]
theorem w64 {x : Int} (h0 : -9223372036854775808 ≤ x) (h1 : x < 9223372036854775808) : wrap64 x = x := by unfold wrap64; omega
theorem bnot_false_true : (!true) = false := rfl
theorem bits_nat2 (k : IntKind) (a b : Nat) (ha : a < 2 ^ k.bits) (hb : b < 2 ^ k.bits) : Go.bits .xor k (a : Int) (b : Int) = k.wrap ((a ^^^ b : Nat) : Int) ∧ Go.bits .and k (a : Int) (b : Int) = k.wrap ((a &&& b : Nat) : Int) ∧ Go.bits .or k (a : Int) (b : Int) = k.wrap ((a ||| b : Nat) : Int) := by
  have ha' : a % 2 ^ k.bits = a := Nat.mod_eq_of_lt ha
  have hb' : b % 2 ^ k.bits = b := Nat.mod_eq_of_lt hb
  refine ⟨?_, ?_, ?_⟩
  · simp only [Go.bits, BitVec.ofInt_natCast, BitVec.toNat_xor, BitVec.toNat_ofNat, ha', hb']
  · simp only [Go.bits, BitVec.ofInt_natCast, BitVec.toNat_and, BitVec.toNat_ofNat, ha', hb']
  · simp only [Go.bits, BitVec.ofInt_natCast, BitVec.toNat_or, BitVec.toNat_ofNat, ha', hb']
theorem wrap_u {k : IntKind} (hs : k.signed = false) {n : Nat} (h : n < 2 ^ k.bits) : k.wrap (n : Int) = n := by
  have h1 : ((n : Nat) : Int) < ((2 ^ k.bits : Nat) : Int) := Int.ofNat_lt.2 h
  rw [Int.natCast_pow] at h1
  unfold IntKind.wrap
  simp only [hs, Bool.false_and]
  exact Int.emod_eq_of_lt (by omega) h1
theorem xor_u32 {a b : Nat} (ha : a < 4294967296) (hb : b < 4294967296) : Go.bits .xor .u32 (a : Int) (b : Int) = ((a ^^^ b : Nat) : Int) :=
  (bits_nat2 .u32 a b ha hb).1.trans (wrap_u rfl (Nat.xor_lt_two_pow (n := 32) ha hb))
theorem and1_u32 {a : Nat} (ha : a < 4294967296) : Go.bits .and .u32 (a : Int) 1 = ((a % 2 : Nat) : Int) := by
  have h := (bits_nat2 .u32 a 1 ha (by decide)).2.1.trans (wrap_u rfl (Nat.and_lt_two_pow (n := 32) a (by decide)))
  rw [Nat.and_one_is_mod] at h
  exact h
theorem xor_u8 {a b : Nat} (ha : a < 256) (hb : b < 256) : Go.bits .xor .u8 (a : Int) (b : Int) = ((a ^^^ b : Nat) : Int) :=
  (bits_nat2 .u8 a b ha hb).1.trans (wrap_u rfl (Nat.xor_lt_two_pow (n := 8) ha hb))
end Go.Proofs.Ytnnfcebnmogdmaa.Kit
