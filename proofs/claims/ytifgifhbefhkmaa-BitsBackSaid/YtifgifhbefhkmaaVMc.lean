/- The machine of values: environments that come behind each other. No conditions. -/
import Derived.Test.YtifgifhbefhkmaaVMb
namespace Go.Proofs.Ytifgifhbefhkmaa.VM
set_option linter.unusedSimpArgs false
set_option linter.unusedVariables false
open Go Go.RowKit
noncomputable section

def updF {α : Type} (H : Nat → Option α) (j : Nat) (x : α) : Nat → Option α := fun b => if b = j then some x else H b
def newsF : List Blk → Nat → (Nat → Option Blk) → Nat → Option Blk
  | [], _, H => H
  | b :: r, j, H => newsF r (j + 1) (updF H j b)
def setsF : List (Nat × Blk) → (Nat → Option Blk) → Nat → Option Blk
  | [], H => H
  | (j, x) :: r, H => setsF r (updF H j x)
def applyF (H : Nat → Option Blk) (base : Nat) (e : Eff) : Nat → Option Blk := newsF e.new base (setsF e.wr H)

theorem hget_cons (j : Nat) (b : Blk) (L : Heap) : hget ((j, b) :: L) = updF (hget L) j b := by
  funext i
  unfold updF
  show (bif Nat.beq j i then some b else hget L i) = _
  cases h : Nat.beq j i
  · have : i ≠ j := fun e => by subst e; simp at h
    simp [this]
  · have : i = j := (Nat.eq_of_beq_eq_true h).symm
    simp [this]
theorem hget_hset (L : Heap) (j : Nat) (x : Blk) : hget (hset L j x) = updF (hget L) j x := by
  induction L with
  | nil => exact hget_cons j x []
  | cons p r ih =>
    obtain ⟨i, b⟩ := p
    funext k
    show hget (bif Nat.beq i j then (i, x) :: r else (i, b) :: hset r j x) k = _
    cases h : Nat.beq i j
    · simp only [cond_false]
      rw [hget_cons, ih, hget_cons]
      have hne : i ≠ j := fun e => by subst e; simp at h
      unfold updF
      by_cases h1 : k = i
      · have h2 : k ≠ j := by omega
        rw [if_pos h1, if_neg h2, if_pos h1]
      · rw [if_neg h1, if_neg h1]
    · have he : i = j := Nat.eq_of_beq_eq_true h
      subst he
      simp only [cond_true]
      rw [hget_cons, hget_cons]
      unfold updF
      by_cases h1 : k = i <;> simp [h1]
theorem hget_hnews : ∀ (l : List Blk) (j : Nat) (L : Heap), hget (hnews l j L) = newsF l j (hget L)
  | [], _, _ => rfl
  | b :: r, j, L => by rw [hnews, hget_hnews, hget_cons]; rfl
theorem hget_hsets : ∀ (l : List (Nat × Blk)) (L : Heap), hget (hsets l L) = setsF l (hget L)
  | [], _ => rfl
  | (j, x) :: r, L => by rw [hsets, hget_hsets, hget_hset]; rfl
theorem hget_applyL (L : Heap) (base : Nat) (e : Eff) : hget (applyL L base e) = applyF (hget L) base e := by
  rw [applyL, hget_hnews, hget_hsets]; rfl
theorem applyF_pure (H : Nat → Option Blk) (base : Nat) (v : V) : applyF H base (Eff.pure v) = H := rfl

theorem cell_of_heap {w w' : World} {c o : Nat} (h : w'.heap[c]? = w.heap[c]?) : w'.cell? ⟨c, o, none⟩ = w.cell? ⟨c, o, none⟩ := by
  unfold World.cell?
  simp only [h]

/-- The world goes on; blocks that were there stay. -/
theorem ext_world {E : Env} {w' : World} (hb : ∀ c, c < E.w.heap.size → w'.heap[c]? = E.w.heap[c]?) (hz : E.w.heap.size ≤ w'.heap.size) : Ext E { E with w := w' } :=
  ⟨rfl, fun c o v hs hv => by rw [cell_of_heap (hb c hs.1)]; exact hv, fun c hs => ⟨Nat.lt_of_lt_of_le hs.1 hz, hs.2.1, hs.2.2⟩, fun b e he => ⟨e, he, .inl rfl⟩⟩
theorem lt_of_heap {w : World} {c : Nat} {o : Obj} (h : w.heap[c]? = some o) : c < w.heap.size := by
  rcases Nat.lt_or_ge c w.heap.size with q | q
  · exact q
  · simp [Array.getElem?_eq_none q] at h
theorem Lies.mono {E E' : Env} (h : Ext E E') {blk : Blk} {e : RE} (hl : Lies E blk e) (hh : ∀ c o, e.pos = some (c, o) → E'.w.heap[c]? = E.w.heap[c]?) : Lies E' blk e := by
  obtain ⟨h1, h2, h3⟩ := hl
  refine ⟨h1, h2, ?_⟩
  revert h3
  cases hp : e.pos with
  | none => exact fun h3 => h3
  | some p =>
    obtain ⟨c, o⟩ := p
    rintro ⟨h3, arr, el, lo, hi, h4, h5, h6, h7, h8⟩
    exact ⟨h.B ▸ h3, arr, el, lo, hi, (hh c o hp).trans h4, h5, h6, h7, h8.mono h⟩
theorem Lies.lt {E : Env} {blk : Blk} {e : RE} (hl : Lies E blk e) {c o : Nat} (hp : e.pos = some (c, o)) : E.B ≤ c ∧ c < E.w.heap.size := by
  obtain ⟨h1, h2, h3⟩ := hl
  rw [hp] at h3
  obtain ⟨h3, arr, el, lo, hi, h4, _⟩ := h3
  exact ⟨h3, lt_of_heap h4⟩
theorem hrel_world {E : Env} {w' : World} (hR : HRel E) (hb : ∀ c, c < E.w.heap.size → w'.heap[c]? = E.w.heap[c]?) (hz : E.w.heap.size ≤ w'.heap.size) : HRel { E with w := w' } :=
  ⟨fun b blk hblk => by
    obtain ⟨e, he, hl⟩ := hR.at_ b blk hblk
    exact ⟨e, he, hl.mono (ext_world hb hz) fun c o hp => hb c (hl.lt hp).2⟩, hR.inj, Nat.le_trans hR.le hz⟩

/-- One block of the call's own is made or written. -/
theorem ext_upd {E : Env} (hR : HRel E) {w' : World} {b : Nat} {blk' : Blk} {e' : RE}
    (hw : ∀ c, c < E.w.heap.size → (∀ o, e'.pos ≠ some (c, o)) → w'.heap[c]? = E.w.heap[c]?) (hz : E.w.heap.size ≤ w'.heap.size)
    (hn : ∀ c o, e'.pos = some (c, o) → E.w.heap.size ≤ c ∨ ∃ blk e o0, E.H b = some blk ∧ blk.fz = false ∧ E.ρ b = some e ∧ e.pos = some (c, o0))
    (hρ : ∀ e, E.ρ b = some e → e' = e ∨ e.ver < e'.ver)
    (hl : Ext E ⟨w', updF E.H b blk', updF E.ρ b e', E.B, E.O⟩ → Lies ⟨w', updF E.H b blk', updF E.ρ b e', E.B, E.O⟩ blk' e') :
    Ext E ⟨w', updF E.H b blk', updF E.ρ b e', E.B, E.O⟩ ∧ HRel ⟨w', updF E.H b blk', updF E.ρ b e', E.B, E.O⟩ := by
  have hfar : ∀ c, E.S c → ∀ o, e'.pos ≠ some (c, o) := by
    intro c hs o hp
    rcases hn c o hp with h | ⟨blk, e, o0, h1, h2, h3, h4⟩
    · have := hs.1; omega
    · exact hs.2.2 b blk e o0 h1 h2 h3 h4
  have hx : Ext E ⟨w', updF E.H b blk', updF E.ρ b e', E.B, E.O⟩ := by
    refine ⟨rfl, fun c o v hs hv => ?_, fun c hs => ⟨Nat.lt_of_lt_of_le hs.1 hz, hs.2.1, fun b1 blk1 e1 o h1 h2 h3 h4 => ?_⟩, fun b1 e1 h1 => ?_⟩
    · rw [cell_of_heap (hw c hs.1 (hfar c hs))]; exact hv
    · simp only [updF] at h1 h3
      by_cases hb : b1 = b
      · simp only [hb, if_true, Option.some.injEq] at h3
        subst h3
        exact hfar c hs o h4
      · simp only [hb, if_false] at h1 h3
        exact hs.2.2 b1 blk1 e1 o h1 h2 h3 h4
    · simp only [updF]
      by_cases hb : b1 = b
      · subst hb; exact ⟨e', by simp, hρ e1 h1⟩
      · exact ⟨e1, by simp [hb, h1], .inl rfl⟩
  refine ⟨hx, ⟨fun b1 blk1 h1 => ?_, fun b1 b2 blk1 blk2 e1 e2 c o o2 h1 h2 h3 h4 h5 h6 => ?_, Nat.le_trans hR.le hz⟩⟩
  · simp only [updF] at h1
    by_cases hb : b1 = b
    · simp only [hb, if_true, Option.some.injEq] at h1
      subst h1
      exact ⟨e', by simp [updF, hb], hl hx⟩
    · simp only [hb, if_false] at h1
      obtain ⟨e1, h2, h3⟩ := hR.at_ b1 blk1 h1
      refine ⟨e1, by simp [updF, hb, h2], h3.mono hx fun c o hp => ?_⟩
      refine hw c (h3.lt hp).2 fun o' hp' => ?_
      rcases hn c o' hp' with h | ⟨blk, e, o0, g1, g2, g3, g4⟩
      · have := (h3.lt hp).2; omega
      · exact hb (hR.inj b1 b blk1 blk e1 e c o o0 h1 g1 h2 g3 hp g4)
  · simp only [updF] at h1 h2 h3 h4
    have one : ∀ b1 blk1 e1 o, b1 ≠ b → E.H b1 = some blk1 → E.ρ b1 = some e1 → e1.pos = some (c, o) → ∀ o', e'.pos ≠ some (c, o') := by
      intro b1 blk1 e1 o hb g1 g2 g3 o' hp'
      rcases hn c o' hp' with h | ⟨blk, e, o0, k1, k2, k3, k4⟩
      · obtain ⟨e0, q1, q2⟩ := hR.at_ b1 blk1 g1
        rw [g2] at q1; cases q1
        have := (q2.lt g3).2; omega
      · exact hb (hR.inj b1 b blk1 blk e1 e c o o0 g1 k1 g2 k3 g3 k4)
    by_cases hb1 : b1 = b <;> by_cases hb2 : b2 = b
    · rw [hb1, hb2]
    · simp only [hb1, if_true, Option.some.injEq] at h3
      simp only [hb2, if_false] at h2 h4
      subst h3
      exact absurd h5 (one b2 blk2 e2 o2 hb2 h2 h4 h6 o)
    · simp only [hb2, if_true, Option.some.injEq] at h4
      simp only [hb1, if_false] at h1 h3
      subst h4
      exact absurd h6 (one b1 blk1 e1 o hb1 h1 h3 h5 o2)
    · simp only [hb1, hb2, if_false] at h1 h2 h3 h4
      exact hR.inj b1 b2 blk1 blk2 e1 e2 c o o2 h1 h2 h3 h4 h5 h6

/-- One block is written no more. -/
theorem ext_freeze {E : Env} (hR : HRel E) {b : Nat} {blk : Blk} (hb : E.H b = some blk) :
    Ext E { E with H := updF E.H b { blk with fz := true } } ∧ HRel { E with H := updF E.H b { blk with fz := true } } := by
  have hx : Ext E { E with H := updF E.H b { blk with fz := true } } := by
    refine ⟨rfl, fun c o v hs hv => hv, fun c hs => ⟨hs.1, hs.2.1, fun b1 blk1 e1 o h1 h2 h3 h4 => ?_⟩, fun b1 e1 h1 => ⟨e1, h1, .inl rfl⟩⟩
    simp only [updF] at h1
    by_cases h : b1 = b
    · simp only [h, if_true, Option.some.injEq] at h1
      subst h1
      cases h2
    · simp only [h, if_false] at h1
      exact hs.2.2 b1 blk1 e1 o h1 h2 h3 h4
  have hold : ∀ b1 blk1, updF E.H b { blk with fz := true } b1 = some blk1 → ∃ blk2, E.H b1 = some blk2 ∧ blk1.cells = blk2.cells ∧ blk1.k = blk2.k ∧ blk1.ver = blk2.ver := by
    intro b1 blk1 h1
    simp only [updF] at h1
    by_cases h : b1 = b
    · simp only [h, if_true, Option.some.injEq] at h1
      subst h1
      exact ⟨blk, h ▸ hb, rfl, rfl, rfl⟩
    · simp only [h, if_false] at h1
      exact ⟨blk1, h1, rfl, rfl, rfl⟩
  refine ⟨hx, ⟨fun b1 blk1 h1 => ?_, fun b1 b2 blk1 blk2 e1 e2 c o o2 h1 h2 h3 h4 h5 h6 => ?_, hR.le⟩⟩
  · obtain ⟨blk2, g1, g2, g3, g4⟩ := hold b1 blk1 h1
    obtain ⟨e, g5, g6⟩ := hR.at_ b1 blk2 g1
    refine ⟨e, g5, ?_⟩
    have g7 := g6.mono hx (fun _ _ _ => rfl)
    unfold Lies at g7 ⊢
    rw [g2, g3, g4]
    exact g7
  · obtain ⟨k1, g1, _⟩ := hold b1 blk1 h1
    obtain ⟨k2, g2, _⟩ := hold b2 blk2 h2
    exact hR.inj b1 b2 k1 k2 e1 e2 c o o2 g1 g2 h3 h4 h5 h6

end
end Go.Proofs.Ytifgifhbefhkmaa.VM
