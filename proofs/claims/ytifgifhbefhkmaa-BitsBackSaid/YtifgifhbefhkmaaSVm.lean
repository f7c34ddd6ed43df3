/- Values with labels: all operations. No conditions. -/
import Derived.Test.YtifgifhbefhkmaaSVl
import Derived.Laws.Strings
namespace Go.Proofs.Ytifgifhbefhkmaa.VM
set_option linter.unusedSimpArgs false
set_option linter.unusedVariables false
open Go Go.RowKit
noncomputable section
section
variable {P : Program} {ε : Nat → Option BE} {H : SHeap} {L : Heap} {t : List SV} {tv : List V} {base vbase : Nat} {cx : SCfg}

theorem sintsL_of : ∀ {l : List SV} {A : List V}, RL ε l A → ∀ {p : List Int}, sintsL l = some p → bytesN A = some p
  | _, _, .nil, p, h => by cases h; rfl
  | _, _, .cons r s, p, h => by
    cases r <;> try (simp only [sintsL] at h; cases h; done)
    rename_i k i m hm
    cases k <;> cases i <;> simp only [sintsL] at h <;> try (cases h; done)
    all_goals (obtain ⟨q, h1, rfl⟩ := mapU_some h; subst hm; simp only [bytesN, sintsL_of s h1]; rfl)
theorem sints_of {l : List SV} {A : List V} (r : RL ε l A) {p : List Int × Bool} (h : sints l = some p) : bytesN A = some p.1 := by
  obtain ⟨q, h1, rfl⟩ := mapU_some h
  exact sintsL_of r h1
theorem bytesC_of : ∀ {l : List Int} {A : List V}, RL ε (bytesC l).list A → bytesN A = some l
  | [], A, h => by cases h; rfl
  | n :: l, A, h => by
    have h' : RL ε (.int .u8 (.sym n) :: (bytesC l).list) A := h
    cases h' with
    | cons r s =>
      cases r with
      | int _ _ m hm => subst hm; simp only [bytesN, bytesC_of s]; rfl
theorem ofNat_inj {a b : Int} (ha : 0 ≤ a ∧ a < 256) (hb : 0 ≤ b ∧ b < 256) (h : UInt8.ofNat a.toNat = UInt8.ofNat b.toNat) : a = b := by
  have := congrArg UInt8.toNat h
  simp only [UInt8.toNat_ofNat'] at this
  omega
theorem strOfNums_inj : ∀ {l m : List Int}, isBytes l → isBytes m → (strOfNums l).toList = (strOfNums m).toList → l = m := by
  intro l m hl hm h
  rw [ByteArray.toList_eq, ByteArray.toList_eq, strOfNums_data, strOfNums_data] at h
  induction l generalizing m with
  | nil => cases m with | nil => rfl | cons b m => simp at h
  | cons a l ih =>
    cases m with
    | nil => simp at h
    | cons b m =>
      simp only [List.map_cons, List.cons.injEq] at h
      rw [ofNat_inj (hl a (List.mem_cons_self ..)) (hm b (List.mem_cons_self ..)) h.1, ih (fun x hx => hl x (List.mem_cons_of_mem _ hx)) (fun x hx => hm x (List.mem_cons_of_mem _ hx)) h.2]
theorem strNums_str (s : ByteArray) : strOfNums (strNums s) = s ∧ isBytes (strNums s) := by
  constructor
  · unfold strOfNums strNums
    cases s with
    | mk d =>
      congr 1
      rw [List.map_map]
      have : ((fun n : Int => UInt8.ofNat n.toNat) ∘ fun b : UInt8 => (b.toNat : Int)) = id := by
        funext b
        simp
      rw [this, List.map_id]
  · intro x hx
    obtain ⟨b, _, rfl⟩ := List.mem_map.1 hx
    have := b.toNat_lt
    constructor <;> omega
theorem text_of {s : SV} {v : V} (r : RV ε s v) {l : List Int} {x : Bool} (h : s.text = some (l, x)) : v = .str (strOfNums l) ∧ (x = true → isBytes l) := by
  cases r <;> simp only [SV.text] at h <;> try (cases h; done)
  · cases h; exact ⟨by rw [(strNums_str _).1], fun _ => (strNums_str _).2⟩
  · cases h; exact ⟨rfl, fun q => by cases q⟩
theorem textEqS_of {a b : SV} {va vb : V} (ra : RV ε a va) (rb : RV ε b vb) {K : Prop → Prop} (h : textEqS a b K) : ∃ (p : Prop) (x y : ByteArray), K p ∧ va = .str x ∧ vb = .str y ∧ ((x.toList == y.toList) = true ↔ p) := by
  unfold textEqS at h
  split at h
  · rename_i l x m y ha hb
    obtain ⟨h1, h2⟩ := text_of ra ha
    obtain ⟨h3, h4⟩ := text_of rb hb
    have main : isBytes l → isBytes m → K (l = m) → ∃ (p : Prop) (x y : ByteArray), K p ∧ va = .str x ∧ vb = .str y ∧ ((x.toList == y.toList) = true ↔ p) :=
      fun q1 q2 hK => ⟨_, _, _, hK, h1, h3, ⟨fun q => strOfNums_inj q1 q2 (by simpa using q), fun q => by rw [q]; simp⟩⟩
    cases x <;> cases y <;> simp only [cond_true, cond_false] at h
    · exact main h.1 h.2.1 h.2.2
    · exact main h.1 (h4 rfl) h.2
    · exact main (h2 rfl) h.1 h.2
    · exact main (h2 rfl) (h4 rfl) h
  · cases h
theorem strEq_run {op : BinOp} {a b : ByteArray} {r : Bool} (h : (op = .eql ∧ r = (a.toList == b.toList)) ∨ (op = .neq ∧ r = !(a.toList == b.toList))) {t : List V} {o : Oper} {ty : TypeId} {x y : Operand} {z : TypeId} (ho : o.op = .binOp op ty x y z)
    (hx : evalV t x = some (.str a)) (hy : evalV t y = some (.str b)) : pureOp P t o = some (Eff.pure (.bool r)) := by
  have h1 : o.op.operands.toList.all (fun x => ((evalV t x).bind toVal).isSome) = true := by
    rw [ho]
    simp [Op.operands, hx, hy, toVal, toAg, toSc]
  have rx : ρOf t x = .string a := by simp [ρOf, hx, toVal, toAg, toSc]
  have ry : ρOf t y = .string b := by simp [ρOf, hy, toVal, toAg, toSc]
  unfold pureOp
  rw [if_pos h1]
  simp only [ho]
  unfold execOp
  simp only [ho, rx, ry]
  rcases h with ⟨rfl, rfl⟩ | ⟨rfl, rfl⟩
  · simp [eqGuard, binOp, Op.stringOp]; rfl
  · simp [eqGuard, binOp, Op.stringOp]; rfl
theorem boolEq_run {op : BinOp} {a b r : Bool} (h : (op = .eql ∧ r = (a == b)) ∨ (op = .neq ∧ r = (a != b))) {t : List V} {o : Oper} {ty : TypeId} {x y : Operand} {z : TypeId} (ho : o.op = .binOp op ty x y z) (hu : P.underlying ty = some .bool)
    (hx : evalV t x = some (.bool a)) (hy : evalV t y = some (.bool b)) : pureOp P t o = some (Eff.pure (.bool r)) := by
  have h1 : o.op.operands.toList.all (fun x => ((evalV t x).bind toVal).isSome) = true := by
    rw [ho]
    simp [Op.operands, hx, hy, toVal, toAg, toSc]
  have rx : ρOf t x = .bool a := by simp [ρOf, hx, toVal, toAg, toSc]
  have ry : ρOf t y = .bool b := by simp [ρOf, hy, toVal, toAg, toSc]
  unfold pureOp
  rw [if_pos h1]
  simp only [ho]
  unfold execOp
  simp only [ho, rx, ry]
  have heq : pureRun P (Op.equal ty (.bool a) (.bool b)) = some (a == b) := by
    unfold Op.equal
    rw [show Op.maxDepth = 9999 + 1 from rfl, Op.equalIn]
    rw [pureRun_bind]
    have : pureRun P (underlying ty) = some .bool := by
      show pureRun P (match P.underlying ty with | some d => pure d | none => stuck "no such type") = _
      rw [hu]; rfl
    rw [this]
    rfl
  have hg : ∀ op, eqGuard op ty x y (.bool a) (.bool b) = pure () := by
    intro op
    cases op <;> rfl
  have hb : ∀ (f : Bool → Value), pureRun P (do pure (f (← Op.equal ty (.bool a) (.bool b)))) = some (f (a == b)) := by
    intro f
    rw [pureRun_bind, heq]
    rfl
  rcases h with ⟨rfl, rfl⟩ | ⟨rfl, rfl⟩
  · rw [hg, pureRun_bind, pureRun_bind, show pureRun P (pure () : Sem Unit) = some () from rfl, Option.bind_some, show binOp .eql ty (.bool a) (.bool b) = (do pure (.bool (← Op.equal ty (.bool a) (.bool b)))) from rfl, hb]
    rfl
  · rw [hg, pureRun_bind, pureRun_bind, show pureRun P (pure () : Sem Unit) = some () from rfl, Option.bind_some, show binOp .neq ty (.bool a) (.bool b) = (do pure (.bool (!(← Op.equal ty (.bool a) (.bool b))))) from rfl, hb fun c => .bool (!c)]
    rfl
end
end
end Go.Proofs.Ytifgifhbefhkmaa.VM
