/- Values with labels: what is handed over. No conditions. -/
import Derived.Test.YtifgifhbefhkmaaSVi
namespace Go.Proofs.Ytifgifhbefhkmaa.VM
set_option linter.unusedSimpArgs false
set_option linter.unusedVariables false
open Go Go.RowKit
noncomputable section
section
variable {ε : Nat → Option BE} {H : SHeap} {L : Heap}

theorem imm_mono : ∀ (n m : Nat) (v : SV), n ≤ m → imm n v → imm m v
  | 0, _, _, _, h => by cases h
  | n + 1, 0, _, hle, _ => by omega
  | n + 1, m + 1, v, hle, h => by
    have ih := fun v => imm_mono n m v (by omega)
    cases v <;> simp only [imm] at h ⊢
    case agg cs => exact fun c hc => ih c (h c hc)
    case tup cs => exact fun c hc => ih c (h c hc)
    case iface t v => exact ih v h
    case func fn f c => exact ⟨fun v hv => ih v (h.1 v hv), fun v hv => ih v (h.2 v hv)⟩
    case slI fr cs n' tt =>
      refine ⟨h.1, ?_⟩
      cases cs with
      | lit l => exact fun c hc => ih c (h.2 c hc)
      | rows e k d fl xs => exact Nat.le_trans h.2 (by omega)
    case ptrI fr ex cs =>
      refine ⟨h.1, h.2.1, ?_⟩
      cases cs with
      | lit l => exact fun c hc => ih c (h.2.2 c hc)
      | rows e k d fl xs => exact Nat.le_trans h.2.2 (by omega)

theorem mapRL_imm {f : V → Option (V × List Nat)} : ∀ {l : List SV} {vs : List V}, RL ε l vs → (∀ s ∈ l, ∀ v, RV ε s v → ∃ w, f v = some (w, []) ∧ ∀ ε', RV ε' s w) → ∃ ws, mapRL f vs = some (ws, []) ∧ ∀ ε', RL ε' l ws
  | _, _, .nil, _ => ⟨[], rfl, fun _ => .nil⟩
  | s :: l, _, .cons r q, h => by
    obtain ⟨w, h1, h2⟩ := h s (List.mem_cons_self ..) _ r
    obtain ⟨ws, h3, h4⟩ := mapRL_imm q fun s hs => h s (List.mem_cons_of_mem _ hs)
    exact ⟨w :: ws, by simp [mapRL, h1, h3], fun ε' => .cons (h2 ε') (h4 ε')⟩
theorem rows_imm {α : Type} {e : α → List SV} {k d : Nat} {fl : Bool} {xs : List α} (hc : COK (.rows e k d fl xs)) : ∀ s ∈ (SC.rows e k d fl xs).list, imm d s := by
  intro s hs
  obtain ⟨x, _, hx⟩ := List.mem_flatMap.1 hs
  exact ((hc x).2.1 s hx).1
/-- What leads to no block of the call's own is handed on as it is. -/
theorem imm_reify {res : Bool} : ∀ (n m : Nat) (s : SV) (v : V), n ≤ m → imm n s → RV ε s v → ∃ w, reify L res m v = some (w, []) ∧ ∀ ε', RV ε' s w
  | 0, _, _, _, _, h, _ => by cases h
  | n + 1, 0, _, _, hle, _, _ => by omega
  | n + 1, m + 1, s, v, hle, h, r => by
    have ih := fun s v => imm_reify (res := res) n m s v (by omega)
    have ihl : ∀ {l : List SV} {vs : List V}, RL ε l vs → (∀ s ∈ l, imm n s) → ∃ ws, mapRL (reify L res m) vs = some (ws, []) ∧ ∀ ε', RL ε' l ws :=
      fun hl hi => mapRL_imm hl fun s hs v hv => ih s v (hi s hs) hv
    cases r <;> simp only [imm] at h
    case int k i m hm => exact ⟨_, rfl, fun _ => .int _ _ _ hm⟩
    case bool b c hb => exact ⟨_, rfl, fun _ => .bool _ _ hb⟩
    case str x => exact ⟨_, rfl, fun _ => .str x⟩
    case strS x => exact ⟨_, rfl, fun _ => .strS x⟩
    case nilIface => exact ⟨_, rfl, fun _ => .nilIface⟩
    case nilFunc => exact ⟨_, rfl, fun _ => .nilFunc⟩
    case nilPtr => exact ⟨_, rfl, fun _ => .nilPtr⟩
    case nilSl => exact ⟨_, rfl, fun _ => .nilSl⟩
    case agg q =>
      obtain ⟨ws, h1, h2⟩ := ihl q h
      exact ⟨.agg ws, by simp only [reify, h1, Option.map_some], fun ε' => .agg (h2 ε')⟩
    case tup q =>
      obtain ⟨ws, h1, h2⟩ := ihl q h
      exact ⟨.tup ws, by simp only [reify, h1, Option.map_some], fun ε' => .tup (h2 ε')⟩
    case iface t q =>
      obtain ⟨w, h1, h2⟩ := ih _ _ h q
      exact ⟨.iface _ w, by simp only [reify, h1, Option.map_some], fun ε' => .iface _ (h2 ε')⟩
    case func q1 q2 =>
      obtain ⟨ws, h1, h2⟩ := ihl q1 h.1
      obtain ⟨us, h3, h4⟩ := ihl q2 h.2
      exact ⟨.func _ ws us, by simp only [reify, h1, h3, List.append_nil], fun ε' => .func _ (h2 ε') (h4 ε')⟩
    case slI fr fr' tt tt' cs cs' n' m' q1 q2 q3 q4 q5 =>
      have hi : ∀ s ∈ cs.list, imm n s := by
        cases cs with
        | lit l => exact h.2
        | rows e k d fl xs => exact fun s hs => imm_mono d n s h.2 (rows_imm q5 s hs)
      obtain ⟨ws, h1, h2⟩ := ihl q4 hi
      exact ⟨.slI (fr' && res) ws _ tt', by simp only [reify, h1, Option.map_some], fun ε' => .slI (fun q => by rw [h.1] at q; cases q) q2 q3 (h2 ε') q5⟩
    case slIn q1 q2 => exact ⟨_, rfl, fun _ => .slIn q1 q2⟩
    case slI0 q1 q2 q3 q4 => exact ⟨_, rfl, fun _ => .slI0 (fun q => by rw [h.1] at q; cases q) q2 q3 q4⟩
    case ptrI fr fr' ex cs cs' rest q1 q2 q3 q4 =>
      have hr := q4 h.2.1
      subst hr
      have hi : ∀ s ∈ cs.list, imm n s := by
        cases cs with
        | lit l => exact h.2.2
        | rows e k d fl xs => exact fun s hs => imm_mono d n s h.2.2 (rows_imm q3 s hs)
      obtain ⟨ws, h1, h2⟩ := ihl q2 hi
      rw [List.append_nil]
      refine ⟨.ptrI (fr' && res) ws, by simp only [reify, h1, Option.map_some], fun ε' => ?_⟩
      have := RV.ptrI (ε := ε') (fr' := fr' && res) (fr := fr) (ex := ex) (rest := []) (fun q => by rw [h.1] at q; cases q) (h2 ε') q3 (fun _ => rfl)
      rwa [List.append_nil] at this

/-- The blocks that were looked at, by their labels. -/
def RS (ε : Nat → Option BE) (H : SHeap) (L : Heap) (rs rs' : List Nat) : Prop :=
  (∀ b ∈ rs, (sget H b).isSome = true) ∧ ∀ b' ∈ rs', (hget L b').isSome = true ∧ ∃ b ∈ rs, ∃ e v0, ε b = some e ∧ e.act = some (b', v0)
theorem RS.nil : RS ε H L [] [] := ⟨fun b hb => (List.not_mem_nil hb).elim, fun b hb => (List.not_mem_nil hb).elim⟩
theorem RS.append {a b a' b' : List Nat} (h : RS ε H L a a') (k : RS ε H L b b') : RS ε H L (a ++ b) (a' ++ b') := by
  refine ⟨fun x hx => ?_, fun x hx => ?_⟩
  · rcases List.mem_append.1 hx with q | q
    · exact h.1 x q
    · exact k.1 x q
  · rcases List.mem_append.1 hx with q | q
    · obtain ⟨h1, y, h2, h3⟩ := h.2 x q
      exact ⟨h1, y, List.mem_append_left _ h2, h3⟩
    · obtain ⟨h1, y, h2, h3⟩ := k.2 x q
      exact ⟨h1, y, List.mem_append_right _ h2, h3⟩

def Reified (ε : Nat → Option BE) (H : SHeap) (L : Heap) (res : Bool) (m : Nat) (v : V) (K : SV → List Nat → Prop) : Prop :=
  ∃ s rs w rs', K s rs ∧ reify L res m v = some (w, rs') ∧ (∀ ε', RV ε' s w) ∧ RS ε H L rs rs'
theorem sreifyL_of {res : Bool} {m : Nat} {f : SV → (SV → List Nat → Prop) → Prop} (hf : ∀ s v K, RV ε s v → f s K → Reified ε H L res m v K) :
    ∀ {l : List SV} {vs : List V} {K : List SV → List Nat → Prop}, RL ε l vs → sreifyL f l K → ∃ ss rs ws rs', K ss rs ∧ mapRL (reify L res m) vs = some (ws, rs') ∧ (∀ ε', RL ε' ss ws) ∧ RS ε H L rs rs'
  | _, _, K, .nil, h => ⟨[], [], [], [], h, rfl, fun _ => .nil, RS.nil⟩
  | _, _, K, .cons r q, h => by
    obtain ⟨s, rs, w, rs', h1, h2, h3, h4⟩ := hf _ _ _ r h
    obtain ⟨ss, rs2, ws, rs2', h5, h6, h7, h8⟩ := sreifyL_of hf q h1
    exact ⟨s :: ss, rs ++ rs2, w :: ws, rs' ++ rs2', h5, by simp [mapRL, h2, h6], fun ε' => .cons (h3 ε') (h7 ε'), h4.append h8⟩
theorem SCreify_of {res : Bool} {n m : Nat} (hnm : n ≤ m) {f : SV → (SV → List Nat → Prop) → Prop} (hf : ∀ s v K, RV ε s v → f s K → Reified ε H L res m v K) {cs : SC} {vs : List V} {K : SC → List Nat → Prop} (hc : COK cs) (hr : RL ε cs.list vs) (h : cs.reify n f K) :
    ∃ c rs ws rs', K c rs ∧ COK c ∧ mapRL (reify L res m) vs = some (ws, rs') ∧ (∀ ε', RL ε' c.list ws) ∧ RS ε H L rs rs' := by
  cases cs with
  | lit l =>
    obtain ⟨ss, rs, ws, rs', h1, h2, h3, h4⟩ := sreifyL_of hf (show RL ε l vs from hr) h
    exact ⟨.lit ss, rs, ws, rs', h1, trivial, h2, h3, h4⟩
  | rows e k d fl xs =>
    obtain ⟨h1, h2⟩ := bif_of (show bif Nat.ble d n then K (.rows e k d fl xs) [] else Stuck 218 from h)
    obtain ⟨ws, h3, h4⟩ := mapRL_imm (f := reify L res m) hr fun s hs v hv => imm_reify d m s v (Nat.le_trans (bleT h1) hnm) (rows_imm hc s hs) hv
    exact ⟨_, [], ws, [], h2, hc, h3, h4, RS.nil⟩
theorem sreify_of (hH : RH ε H L) {res : Bool} : ∀ (n m : Nat) (s : SV) (v : V) (K : SV → List Nat → Prop), n ≤ m → RV ε s v → sreify H res n s K → Reified ε H L res m v K
  | 0, _, _, _, _, _, _, h => by cases h
  | n + 1, 0, _, _, _, hle, _, _ => by omega
  | n + 1, mm + 1, s, v, K, hle, r, h => by
    have ih := fun s v K => sreify_of hH (res := res) n mm s v K (by omega)
    have ihl := fun {l vs K} => sreifyL_of (K := K) (l := l) (vs := vs) ih
    cases s <;> simp only [sreify] at h
    case any => cases h
    case int k i => cases r with | int _ _ m hm => exact ⟨_, _, _, _, h, rfl, fun _ => .int _ _ _ hm, RS.nil⟩
    case bool b => cases r with | bool _ c hb => exact ⟨_, _, _, _, h, rfl, fun _ => .bool _ _ hb, RS.nil⟩
    case str x => cases r; exact ⟨_, _, _, _, h, rfl, fun _ => .str _, RS.nil⟩
    case strS x => cases r; exact ⟨_, _, _, _, h, rfl, fun _ => .strS _, RS.nil⟩
    case nilIface => cases r; exact ⟨_, _, _, _, h, rfl, fun _ => .nilIface, RS.nil⟩
    case nilFunc => cases r; exact ⟨_, _, _, _, h, rfl, fun _ => .nilFunc, RS.nil⟩
    case nilPtr => cases r; exact ⟨_, _, _, _, h, rfl, fun _ => .nilPtr, RS.nil⟩
    case nilSl => cases r; exact ⟨_, _, _, _, h, rfl, fun _ => .nilSl, RS.nil⟩
    case agg cs =>
      cases r with
      | agg q =>
        obtain ⟨ss, rs, ws, rs', h1, h2, h3, h4⟩ := ihl q h
        exact ⟨_, _, .agg ws, rs', h1, by simp only [reify, h2, Option.map_some], fun ε' => .agg (h3 ε'), h4⟩
    case tup cs =>
      cases r with
      | tup q =>
        obtain ⟨ss, rs, ws, rs', h1, h2, h3, h4⟩ := ihl q h
        exact ⟨_, _, .tup ws, rs', h1, by simp only [reify, h2, Option.map_some], fun ε' => .tup (h3 ε'), h4⟩
    case iface t x =>
      cases r with
      | iface _ q =>
        obtain ⟨ss, rs, w, rs', h1, h2, h3, h4⟩ := ih _ _ _ q h
        exact ⟨_, _, .iface t w, rs', h1, by simp only [reify, h2, Option.map_some], fun ε' => .iface _ (h3 ε'), h4⟩
    case func fn f c =>
      cases r with
      | func _ q1 q2 =>
        obtain ⟨ss, rs, ws, rs', h1, h2, h3, h4⟩ := ihl q1 h
        obtain ⟨ss2, rs2, ws2, rs2', h5, h6, h7, h8⟩ := ihl q2 h1
        exact ⟨_, _, .func fn ws ws2, rs' ++ rs2', h5, by simp only [reify, h2, h6], fun ε' => .func _ (h3 ε') (h7 ε'), h4.append h8⟩
    case ptrI fr ex cs =>
      obtain ⟨hex, h⟩ := bif_of h
      cases r with
      | ptrI q1 q2 q3 q4 =>
        rename_i fr' cs' rest
        have hr := q4 hex
        subst hr
        rw [List.append_nil]
        obtain ⟨c, rs, ws, rs', h1, hc, h2, h3, h4⟩ := SCreify_of (by omega) ih q3 q2 h
        refine ⟨_, _, .ptrI (fr' && res) ws, rs', h1, by simp only [reify, h2, Option.map_some], fun ε' => ?_, h4⟩
        have := RV.ptrI (ε := ε') (fr' := fr' && res) (fr := fr && res) (ex := true) (rest := []) (fun q => by
          simp only [Bool.and_eq_true] at q ⊢
          exact ⟨q1 q.1, q.2⟩) (h3 ε') hc (fun _ => rfl)
        rwa [List.append_nil] at this
    case slI fr cs m tt =>
      obtain ⟨hfit, h⟩ := bif_of h
      cases r with
      | slI q1 q2 q3 q4 q5 =>
        rename_i fr' tt' cs' m'
        obtain ⟨c, rs, ws, rs', h1, hc, h2, h3, h4⟩ := SCreify_of (by omega) ih q5 q4 h
        exact ⟨_, _, .slI (fr' && res) ws m' tt', rs', h1, by simp only [reify, h2, Option.map_some], fun ε' => .slI (fun q => by
          simp only [Bool.and_eq_true] at q ⊢
          exact ⟨q1 q.1, q.2⟩) q2 q3 (h3 ε') hc, h4⟩
      | slIn q1 q2 =>
        cases cs with
        | lit l =>
          cases l with
          | nil => exact ⟨_, _, _, _, h, rfl, fun ε' => .slIn q1 trivial, RS.nil⟩
          | cons x l => cases m with
            | lit k => simp only [fitsS, SN.val_lit] at hfit q1; subst q1; cases hfit
            | sym k => cases hfit
        | rows e k d fl xs =>
          obtain ⟨g1, g2⟩ := bif_of (show bif Nat.ble d n then _ else Stuck 218 from h)
          exact ⟨_, _, _, _, g2, rfl, fun ε' => .slIn q1 q2, RS.nil⟩
      | slI0 q1 q2 q3 q4 =>
        rename_i fr' tt'
        cases cs with
        | lit l =>
          cases l with
          | nil => exact ⟨_, _, .slI (fr' && res) [] 0 tt', [], h, rfl, fun ε' => .slI0 (fun q => by
              simp only [Bool.and_eq_true] at q ⊢
              exact ⟨q1 q.1, q.2⟩) q2 q3 trivial, RS.nil⟩
          | cons x l => cases m with
            | lit k => simp only [fitsS, SN.val_lit] at hfit q3; subst q3; cases hfit
            | sym k => cases hfit
        | rows e k d fl xs =>
          obtain ⟨g1, g2⟩ := bif_of (show bif Nat.ble d n then _ else Stuck 218 from h)
          exact ⟨_, _, .slI (fr' && res) [] 0 tt', [], g2, rfl, fun ε' => .slI0 (fun q => by
              simp only [Bool.and_eq_true] at q ⊢
              exact ⟨q1 q.1, q.2⟩) q2 q3 q4, RS.nil⟩
    case ptrB b e k f ver =>
      split at h
      · rename_i blk e hb
        obtain ⟨h0, h⟩ := bif_of h
        obtain ⟨hver, hlz⟩ := andT h0
        obtain ⟨e0, b', v0, ablk, g1, g2, g3, rfl, g5, g6, g7, g8, g9, g10⟩ := ptrB_at hH hb hver r
        split at h
        · rename_i l hl
          obtain ⟨h1, h⟩ := bif_of h
          have h1 := bleT h1
          rw [slen_eq] at h1
          rw [hl] at g9
          rw [sdrop_eq] at h
          obtain ⟨ss, rs, ws, rs', k1, k2, k3, k4⟩ := ihl (RL.drop (show RL ε l ablk.cells from g9) (e * k + f)) h
          refine ⟨_, _, .ptrI res ws, b' :: rs', k1, ?_, fun ε' => ?_, ?_⟩
          · simp only [reify, g5, g6, if_true, SN.val_lit, k2, Option.map_some]
          · have := RV.ptrI (ε := ε') (fr' := res) (fr := res) (ex := true) (cs := .lit ss) (rest := []) id (k3 ε') trivial (fun _ => rfl)
            rwa [List.append_nil] at this
          · refine RS.append (a := [b]) (a' := [b']) ⟨fun x hx => ?_, fun x hx => ?_⟩ k4
            · rw [List.mem_singleton.1 hx, hb]; rfl
            · rw [List.mem_singleton.1 hx, g5]
              exact ⟨rfl, b, List.mem_singleton.2 rfl, e0, v0, g1, g2⟩
        · cases h
      · cases h
    case slB b e k ver m =>
      split at h
      · rename_i blk hb
        obtain ⟨h0, h⟩ := bif_of h
        obtain ⟨hver, hk⟩ := andT h0
        have hk := beqT hk
        subst hk
        obtain ⟨e0, g1, g3, gc, hq⟩ := slB_at' hH hb hver r
        rcases hq with ⟨b', v0, ablk, q2, rfl, q5, q6, q7, q8, q9⟩ | ⟨q1, q2, rfl, q4, q5, q6⟩
        · obtain ⟨c, h3, h4, h5, h6, h7⟩ := SC.cut_of h gc q9
          obtain ⟨c2, rs, ws, rs', k1, kc, k2, k3, k4⟩ := SCreify_of (by omega) ih h4 h6 h3
          refine ⟨_, _, .slI res ws m.val false, b' :: rs', k1, ?_, fun ε' => .slI id id rfl (k3 ε') kc, ?_⟩
          · simp only [reify, q5]
            rw [if_pos ⟨q6, by rw [q7, ← Nat.add_mul]; exact h5⟩, q7, k2]
            rfl
          · refine RS.append (a := [b]) (a' := [b']) ⟨fun x hx => ?_, fun x hx => ?_⟩ k4
            · rw [List.mem_singleton.1 hx, hb]; rfl
            · rw [List.mem_singleton.1 hx, q5]
              exact ⟨rfl, b, List.mem_singleton.2 rfl, e0, v0, g1, q2⟩
        · obtain ⟨c, h3, h4, h5, h6, h7⟩ := SC.cut_of (ε := ε) (A := []) h gc (by rw [q6]; exact .nil)
          have h6' : RL ε c.list [] := by simpa using h6
          obtain ⟨c2, rs, ws, rs', k1, kc, k2, k3, k4⟩ := SCreify_of (by omega) ih h4 h6' h3
          cases k2
          refine ⟨_, _, .nilSl, [], k1, rfl, fun ε' => .slIn q4 kc, ⟨fun x hx => ?_, fun x hx => (List.not_mem_nil hx).elim⟩⟩
          rcases List.mem_cons.1 hx with rfl | hx
          · rw [hb]; rfl
          · exact k4.1 x hx
      · cases h
end
end
end Go.Proofs.Ytifgifhbefhkmaa.VM
