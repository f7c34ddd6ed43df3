/- Values with labels: rows that go back and may be written on. No conditions. -/
import Derived.Test.YtifgifhbefhkmaaSVq
namespace Go.Proofs.Ytifgifhbefhkmaa.VM
set_option linter.unusedSimpArgs false
set_option linter.unusedVariables false
open Go Go.RowKit
noncomputable section
section
variable {ε : Nat → Option BE} {H : SHeap} {L : Heap}

/-- A row that goes back, by its label and as it is. -/
def QR (ε : Nat → Option BE) (H : SHeap) (q : Nat × SN × Nat × Nat × SN) (q' : Nat × Nat × Nat × Nat) : Prop :=
  ∃ blk e0, sget H q.1 = some blk ∧ ε q.1 = some e0 ∧ e0.act = some (q'.1, q'.2.2.1) ∧ q'.2.1 = q.2.1.val * q.2.2.1 ∧ q'.2.2.2 = q.2.2.2.2.val
inductive QL (ε : Nat → Option BE) (H : SHeap) : List (Nat × SN × Nat × Nat × SN) → List (Nat × Nat × Nat × Nat) → Prop
  | nil : QL ε H [] []
  | cons {q : Nat × SN × Nat × Nat × SN} {q' : Nat × Nat × Nat × Nat} {l : List (Nat × SN × Nat × Nat × SN)} {l' : List (Nat × Nat × Nat × Nat)} : QR ε H q q' → QL ε H l l' → QL ε H (q :: l) (q' :: l')
theorem QL.length {l : List (Nat × SN × Nat × Nat × SN)} {l' : List (Nat × Nat × Nat × Nat)} (h : QL ε H l l') : l.length = l'.length := by
  induction h with
  | nil => rfl
  | cons _ _ ih => simp [ih]
theorem QR.fst (hH : RH ε H L) {p q : Nat × SN × Nat × Nat × SN} {p' q' : Nat × Nat × Nat × Nat} (hp : QR ε H p p') (hq : QR ε H q q') : p.1 = q.1 ↔ p'.1 = q'.1 := by
  obtain ⟨b1, e1, h1, h2, h3, _⟩ := hp
  obtain ⟨b2, e2, k1, k2, k3, _⟩ := hq
  constructor
  · intro e
    rw [e, k2] at h2
    cases h2
    rw [k3] at h3
    simp only [Option.some.injEq, Prod.mk.injEq] at h3
    exact h3.1.symm
  · intro e
    rw [e] at h3
    exact hH.inj _ _ _ _ _ _ _ _ _ h1 k1 h2 k2 h3 k3
theorem nodup_rel (hH : RH ε H L) {l : List (Nat × SN × Nat × Nat × SN)} {l' : List (Nat × Nat × Nat × Nat)} (h : QL ε H l l') (hn : nodupB (l.map (·.1)) = true) : nodupB (l'.map (·.1)) = true := by
  induction h with
  | nil => rfl
  | @cons q q' l l' hq hl ih =>
    simp only [List.map_cons, nodupB, Bool.and_eq_true, Bool.not_eq_true'] at hn ⊢
    refine ⟨?_, ih hn.2⟩
    have h1 := hn.1
    clear ih hn
    revert h1
    induction hl with
    | nil => intro _; rfl
    | @cons p p' l l' hp hl ih =>
      intro h1
      simp only [List.map_cons, List.contains_cons, Bool.or_eq_false_iff] at h1 ⊢
      refine ⟨?_, ih h1.2⟩
      have : q.1 ≠ p.1 := by simpa using h1.1
      have := mt (QR.fst hH hq hp).2 this
      simpa using this
theorem idx_rel (hH : RH ε H L) {b : Nat × SN × Nat × Nat × SN} {b' : Nat × Nat × Nat × Nat} (hb : QR ε H b b') {l : List (Nat × SN × Nat × Nat × SN)} {l' : List (Nat × Nat × Nat × Nat)} (h : QL ε H l l') : ∀ {k j : Nat}, idxN (l.map (·.1)) b.1 k = some j → idxN (l'.map (·.1)) b'.1 k = some j ∧ j < k + l.length := by
  induction h with
  | nil => intro k j h; cases h
  | @cons q q' l l' hq hl ih =>
    intro k j h
    simp only [List.map_cons, idxN] at h ⊢
    split at h
    · rename_i e
      cases h
      rw [if_pos ((QR.fst hH hq hb).1 e)]
      exact ⟨rfl, by simp⟩
    · rename_i e
      rw [if_neg (mt (QR.fst hH hq hb).2 e)]
      obtain ⟨h1, h2⟩ := ih h
      exact ⟨h1, by simp only [List.length_cons]; omega⟩
theorem shrem_get : ∀ (H : SHeap) (X : List Nat) (b : Nat), sget (shrem H X) b = if X.contains b then none else sget H b
  | [], X, b => by simp [shrem, sget]
  | (i, x) :: r, X, b => by
    rw [shrem]
    cases h : X.contains i with
    | true =>
      simp only [cond_true]
      rw [shrem_get r X b, sget_cons]
      by_cases q : b = i
      · subst q; rw [if_pos h, if_pos h]
      · rw [if_neg q]
    | false =>
      simp only [cond_false]
      rw [sget_cons, sget_cons]
      by_cases q : b = i
      · subst q; rw [if_pos rfl, if_neg (by rw [h]; simp), if_pos rfl]
      · rw [if_neg q, if_neg q, shrem_get r X b]
theorem rem_rel (hH : RH ε H L) {l : List (Nat × SN × Nat × Nat × SN)} {l' : List (Nat × Nat × Nat × Nat)} (h : QL ε H l l') : RH ε (shrem H (l.map (·.1))) (hrem L (l'.map (·.1))) := by
  have mem : ∀ b blk e b' v, sget H b = some blk → ε b = some e → e.act = some (b', v) → ((l'.map (·.1)).contains b' = true → (l.map (·.1)).contains b = true) := by
    intro b blk e b' v h1 h2 h3 h4
    induction h with
    | nil => cases h4
    | @cons q q' l l' hq hl ih =>
      simp only [List.map_cons, List.contains_cons, Bool.or_eq_true, beq_iff_eq] at h4 ⊢
      rcases h4 with h4 | h4
      · left
        obtain ⟨b2, e2, k1, k2, k3, _⟩ := hq
        rw [← h4] at k3
        exact hH.inj _ _ _ _ _ _ _ _ _ h1 k1 h2 k2 h3 k3
      · exact .inr (ih h4)
  refine ⟨fun b blk hb => ?_, fun b1 b2 blk1 blk2 e1 e2 c v1 v2 h1 h2 => ?_⟩
  · rw [shrem_get] at hb
    split at hb
    · cases hb
    · rename_i hn
      obtain ⟨e, h1, h2, h3, h4⟩ := hH.at_ b blk hb
      refine ⟨e, h1, h2, h3, h4.imp id ?_⟩
      rintro ⟨b', v', ab, g1, g2, g3⟩
      refine ⟨b', v', ab, g1, ?_, g3⟩
      rw [hrem_get, if_neg (fun q => hn (mem b blk e b' v' hb h1 g1 q))]
      exact g2
  · rw [shrem_get] at h1 h2
    split at h1
    · cases h1
    · split at h2
      · cases h2
      · exact hH.inj b1 b2 blk1 blk2 e1 e2 c v1 v2 h1 h2
/-- A label of a row that goes back. -/
def okQ (H : SHeap) (q : Nat × SN × Nat × Nat × SN) : Prop := ∃ blk, sget H q.1 = some blk ∧ blk.ver = q.2.2.2.1 ∧ blk.fz = false ∧ blk.k = q.2.2.1 ∧ blk.lz = false
theorem qr_of (hH : RH ε H L) {b k ver : Nat} {e n : SN} {c : V} (r : RV ε (.slB b e k ver n) c) (ho : okQ H (b, e, k, ver, n)) : ∃ b' off' ver' n', c = .slB b' off' ver' n' ∧ QR ε H (b, e, k, ver, n) (b', off', ver', n') := by
  obtain ⟨blk, h1, h2, h3, h4, h5⟩ := ho
  obtain ⟨e0, g1, g2, g3, hq⟩ := slB_at' hH h1 (by rw [h2]; simp) r
  rcases hq with ⟨b', v0, ab, q1, rfl, _⟩ | ⟨q, _⟩
  · exact ⟨_, _, _, _, rfl, blk, e0, h1, g1, q1, rfl, rfl⟩
  · rw [h5] at q; cases q
theorem sexpB_of (hH : RH ε H L) {R : SHeap} {RL' : Heap} (hR : RH ε R RL') : ∀ {qs : List (Nat × SN × Nat × Nat × SN)} {K : List SBlk → Prop}, sexpB H R qs K → (∀ q ∈ qs, okQ H q) ∧ ∀ qs', QL ε H qs qs' → ∃ ss bs, K ss ∧ mapO (expB L RL') qs' = some bs ∧ ss.length = qs.length ∧ ∀ ε', NewR ε' ss bs
  | [], K, h => ⟨fun q hq => (by cases hq), fun qs' hq => by cases hq; exact ⟨[], [], h, rfl, rfl, fun _ => .nil⟩⟩
  | (b, e, k, ver, n) :: qs, K, h => by
    unfold sexpB at h
    split at h
    · rename_i blk hb
      obtain ⟨h0, h⟩ := bif_of h
      obtain ⟨h0, hlz⟩ := andT h0
      obtain ⟨h0, hk⟩ := andT h0
      obtain ⟨hver, hfz⟩ := andT h0
      have hfz : blk.fz = false := by simpa using hfz
      have hlz : blk.lz = false := by simpa using hlz
      have hk := beqT hk
      have hver' := beqT hver
      -- the cells do not hang on what is known of the rows
      obtain ⟨e0, g1, g2, g3, g4⟩ := hH.at_ b blk hb
      rcases g4 with ⟨q, _⟩ | ⟨b', v', ab, q1, q2, q3, q4, q5, q6⟩
      · rw [hlz] at q; cases q
      · obtain ⟨c, k1, k2, k3, k4, k5⟩ := SC.cut_of h g3 q6
        obtain ⟨c2, rs, ws, rs', j1, jc, j2, j3, j4⟩ := SCreify_of (show (50 : Nat) ≤ 60 by omega) (fun s v K r hk => sreify_of hR 50 60 s v K (by omega) r hk) k2 k4 k1
        obtain ⟨ih1, ih2⟩ := sexpB_of hH hR j1
        refine ⟨fun q hq => ?_, fun qs' hq => ?_⟩
        · rcases List.mem_cons.1 hq with rfl | hq
          · exact ⟨blk, hb, hver', hfz, hk, hlz⟩
          · exact ih1 q hq
        · cases hq with
          | @cons _ q' _ l' hqr hl =>
            obtain ⟨ss, bs, m1, m2, m3, m4⟩ := ih2 l' hl
            obtain ⟨blk2, e2, n1, n2, n3, n4, n5⟩ := hqr
            obtain ⟨x1, x2, x3, x4⟩ := q'
            simp only at n1 n2 n3 n4 n5
            rw [hb] at n1; cases n1
            rw [g1] at n2; cases n2
            rw [q1] at n3; cases n3
            refine ⟨_, ⟨ws, k, 0, false⟩ :: bs, m1, ?_, by simp [m3], fun ε' => .cons jc rfl rfl rfl (fun _ => rfl) rfl (j3 ε') (m4 ε')⟩
            have e1 : expB L RL' (b', x2, v', x4) = some ⟨ws, k, 0, false⟩ := by
              simp only [expB, q2]
              rw [n4, n5, q4, hk, if_pos ⟨q3, q5 hfz, by rw [← Nat.add_mul]; exact k3⟩, j2]
            simp only [mapO, e1, m2]
    · cases h
theorem sexpC_of (hH : RH ε H L) {R : SHeap} {RL' : Heap} (hR : RH ε R RL') {qs : List (Nat × SN × Nat × Nat × SN)} {base vbase : Nat} {s : SV} {c : V} {K : SV → Prop} (r : RV ε s c) (h : sexpC R (qs.map (·.1)) base s K) (hok : ∀ b e k ver n, s = .slB b e k ver n → okQ H (b, e, k, ver, n)) :
    (∃ b e k ver n b' off' ver' n', s = .slB b e k ver n ∧ c = .slB b' off' ver' n' ∧ QR ε H (b, e, k, ver, n) (b', off', ver', n') ∧ ∃ j, idxN (qs.map (·.1)) b 0 = some j ∧ K (.slB (base + j) (.lit 0) k 0 n)) ∨
    ((∀ b e k ver n, s ≠ .slB b e k ver n) ∧ (∀ b o v n, c ≠ .slB b o v n) ∧ ∃ s' w rs', K s' ∧ reify RL' true 60 c = some (w, rs') ∧ ∀ ε', RV ε' s' w) := by
  unfold sexpC at h
  split at h
  · rename_i b e k ver n
    split at h
    · rename_i j hj
      obtain ⟨b', off', ver', n', rfl, hq⟩ := qr_of hH r (hok _ _ _ _ _ rfl)
      exact .inl ⟨b, e, k, ver, n, b', off', ver', n', rfl, rfl, hq, j, hj, h⟩
    · cases h
  · rename_i hne
    right
    obtain ⟨s', rs, w, rs', h1, h2, h3, h4⟩ := sreify_of hR 50 60 s c _ (by omega) r h
    refine ⟨fun b e k ver n q => hne b e k ver n q, fun b o v n q => ?_, s', w, rs', h1, h2, h3⟩
    subst q
    cases r with
    | any => cases h
    | slB => exact hne _ _ _ _ _ rfl
    | ptrB he hv hp ho =>
      rename_i b1 k1 f1 ver1 o1 e1
      unfold sreify at h
      simp only at h
      split at h
      · rename_i blk e2 hb
        obtain ⟨h0, _⟩ := bif_of h
        obtain ⟨_, _, _, _, _, _, _, q, _⟩ := ptrB_at hR hb (andT h0).1 (.ptrB he hv hp ho)
        cases q
      · cases h
inductive R3 (Q : SV → V → SV → Prop) : List SV → List V → List SV → Prop
  | nil : R3 Q [] [] []
  | cons {s : SV} {c : V} {s' : SV} {l : List SV} {cs : List V} {l' : List SV} : Q s c s' → R3 Q l cs l' → R3 Q (s :: l) (c :: cs) (s' :: l')
theorem sexpL_of {f : SV → (SV → Prop) → Prop} {Q : SV → V → SV → Prop} : ∀ {l : List SV} {cs : List V} {K : List SV → Prop}, (∀ s ∈ l, ∀ c K, RV ε s c → f s K → ∃ s', K s' ∧ Q s c s') → RL ε l cs → sexpL f l K → ∃ ss, K ss ∧ R3 Q l cs ss
  | _, _, K, _, .nil, h => ⟨[], h, .nil⟩
  | s :: l, c :: cs, K, hf, .cons r q, h => by
    obtain ⟨s', h1, h2⟩ := hf s (List.mem_cons_self ..) c _ r h
    obtain ⟨ss, h3, h4⟩ := sexpL_of (fun s hs => hf s (List.mem_cons_of_mem _ hs)) q h1
    exact ⟨s' :: ss, h3, .cons h2 h4⟩
theorem QL.append {a b : List (Nat × SN × Nat × Nat × SN)} {a' b' : List (Nat × Nat × Nat × Nat)} (h : QL ε H a a') (k : QL ε H b b') : QL ε H (a ++ b) (a' ++ b') := by
  induction h with
  | nil => exact k
  | cons q _ ih => exact .cons q ih
/-- What is told of a value that goes back. -/
def TQ (ε : Nat → Option BE) (H : SHeap) (RL' : Heap) (qs : List (Nat × SN × Nat × Nat × SN)) (base vbase : Nat) (ex : Heap → List Nat → Nat → V → Option V) (A : SV → List (Nat × SN × Nat × Nat × SN)) (A' : V → List (Nat × Nat × Nat × Nat)) (s : SV) (c : V) (s' : SV) : Prop :=
  QL ε H (A s) (A' c) ∧ ∀ qs', QL ε H qs qs' → ∃ w, ex RL' (qs'.map (·.1)) vbase c = some w ∧ RV (newsE noE base vbase qs.length) s' w
def cellId : SV → List (Nat × SN × Nat × Nat × SN)
  | .slB b e k ver n => [(b, e, k, ver, n)]
  | _ => []
def cellId' : V → List (Nat × Nat × Nat × Nat)
  | .slB b off ver n => [(b, off, ver, n)]
  | _ => []
theorem filterMap_cell (l : List SV) : (l.filterMap fun | .slB b e k ver n => some (b, e, k, ver, n) | _ => none) = l.flatMap cellId := by
  induction l with
  | nil => rfl
  | cons s l ih => cases s <;> simp [cellId, ih]
theorem filterMap_cell' (l : List V) : (l.filterMap fun | .slB b off ver n => some (b, off, ver, n) | _ => none) = l.flatMap cellId' := by
  induction l with
  | nil => rfl
  | cons s l ih => cases s <;> simp [cellId', ih]
theorem sexpC_tq (hH : RH ε H L) {R : SHeap} {RL' : Heap} (hR : RH ε R RL') {qs : List (Nat × SN × Nat × Nat × SN)} {base vbase : Nat} {s : SV} {c : V} {K : SV → Prop} (r : RV ε s c) (h : sexpC R (qs.map (·.1)) base s K) (hok : ∀ q ∈ cellId s, okQ H q) :
    ∃ s', K s' ∧ TQ ε H RL' qs base vbase expC cellId cellId' s c s' := by
  rcases sexpC_of (vbase := vbase) hH hR r h (fun b e k ver n q => hok _ (by rw [q]; exact List.mem_singleton.2 rfl)) with ⟨b, e, k, ver, n, b', off', ver', n', rfl, rfl, hq, j, hj, hK⟩ | ⟨h1, h2, s', w, rs', hK, h3, h4⟩
  · refine ⟨_, hK, .cons hq .nil, fun qs' hqs => ?_⟩
    obtain ⟨g1, g2⟩ := idx_rel (b := (b, e, k, ver, n)) (b' := (b', off', ver', n')) hH hq hqs (k := 0) (j := j) hj
    refine ⟨.slB (vbase + j) 0 0 n', by simp only [expC]; rw [g1]; rfl, ?_⟩
    obtain ⟨_, _, _, _, _, _, hn⟩ := hq
    simp only at hn
    refine .slB (e := ⟨0, some (vbase + j, 0)⟩) ?_ (Nat.le_refl _) (fun _ => .inl ⟨vbase + j, 0, rfl, by rw [hn]; simp⟩) rfl
    unfold newsE
    rw [if_pos (by omega), Nat.add_sub_cancel_left]
  · refine ⟨s', hK, ?_, fun qs' hqs => ⟨w, ?_, h4 _⟩⟩
    · have e1 : cellId s = [] := by cases s <;> first | rfl | exact absurd rfl (h1 _ _ _ _ _)
      have e2 : cellId' c = [] := by cases c <;> first | rfl | exact absurd rfl (h2 _ _ _ _)
      rw [e1, e2]
      exact .nil
    · unfold expC
      split
      · exact absurd rfl (h2 _ _ _ _)
      · rw [h3]; rfl
theorem R3_tq {RL' : Heap} {qs : List (Nat × SN × Nat × Nat × SN)} {base vbase : Nat} {ex : Heap → List Nat → Nat → V → Option V} {A : SV → List (Nat × SN × Nat × Nat × SN)} {A' : V → List (Nat × Nat × Nat × Nat)} {l : List SV} {cs : List V} {ss : List SV} (h : R3 (TQ ε H RL' qs base vbase ex A A') l cs ss) :
    QL ε H (l.flatMap A) (cs.flatMap A') ∧ ∀ qs', QL ε H qs qs' → ∃ ws, mapO (ex RL' (qs'.map (·.1)) vbase) cs = some ws ∧ RL (newsE noE base vbase qs.length) ss ws := by
  induction h with
  | nil => exact ⟨.nil, fun qs' _ => ⟨[], rfl, .nil⟩⟩
  | cons h1 _ ih =>
    refine ⟨by rw [List.flatMap_cons, List.flatMap_cons]; exact h1.1.append ih.1, fun qs' hq => ?_⟩
    obtain ⟨w, g1, g2⟩ := h1.2 qs' hq
    obtain ⟨ws, g3, g4⟩ := ih.2 qs' hq
    exact ⟨w :: ws, by simp only [mapO, g1, g3], .cons g2 g4⟩
theorem sexpT_tq (hH : RH ε H L) {R : SHeap} {RL' : Heap} (hR : RH ε R RL') {qs : List (Nat × SN × Nat × Nat × SN)} {base vbase : Nat} {s : SV} {c : V} {K : SV → Prop} (r : RV ε s c) (h : sexpT R (qs.map (·.1)) base s K) (hok : ∀ q ∈ stopIds s, okQ H q) :
    ∃ s', K s' ∧ TQ ε H RL' qs base vbase expT stopIds topIds s c s' := by
  unfold sexpT at h
  split at h
  · rename_i cs
    cases r with
    | agg q =>
      rename_i cs'
      have hids : stopIds (.agg cs) = cs.flatMap cellId := filterMap_cell cs
      have hids' : topIds (.agg cs') = cs'.flatMap cellId' := filterMap_cell' cs'
      rw [hids] at hok
      obtain ⟨ss, h1, h2⟩ := sexpL_of (fun s hs c K r hk => sexpC_tq (vbase := vbase) hH hR r hk (fun q hq => hok q (List.mem_flatMap.2 ⟨s, hs, hq⟩))) q h
      obtain ⟨h3, h4⟩ := R3_tq h2
      refine ⟨_, h1, by rw [hids, hids']; exact h3, fun qs' hq => ?_⟩
      obtain ⟨ws, g1, g2⟩ := h4 qs' hq
      exact ⟨.agg ws, by simp only [expT, g1]; rfl, .agg g2⟩
  · rename_i hne
    have e1 : stopIds s = cellId s := by cases s <;> first | rfl | exact absurd rfl (hne _)
    rw [e1] at hok
    obtain ⟨s', h1, h2, h3⟩ := sexpC_tq (vbase := vbase) hH hR r h hok
    have hca : ∀ cs, c ≠ .agg cs := by
      intro cs q
      subst q
      cases r with
      | any => simp only [sexpC, sreify] at h; cases h
      | agg => exact hne _ rfl
      | ptrB _ _ _ ho => cases ho
      | slB _ _ _ ho => cases ho
    have e2 : topIds c = cellId' c := by cases c <;> first | rfl | exact absurd rfl (hca _)
    refine ⟨s', h1, by rw [e1, e2]; exact h2, fun qs' hq => ?_⟩
    obtain ⟨w, g1, g2⟩ := h3 qs' hq
    refine ⟨w, ?_, g2⟩
    unfold expT
    split
    · exact absurd rfl (hca _)
    · exact g1
theorem sexpV_tq (hH : RH ε H L) {R : SHeap} {RL' : Heap} (hR : RH ε R RL') {qs : List (Nat × SN × Nat × Nat × SN)} {base vbase : Nat} {s : SV} {c : V} {K : SV → Prop} (r : RV ε s c) (h : sexpV R (qs.map (·.1)) base s K) (hok : ∀ q ∈ sallIds s, okQ H q) :
    ∃ s', K s' ∧ TQ ε H RL' qs base vbase expV sallIds allIds s c s' := by
  unfold sexpV at h
  split at h
  · rename_i cs
    cases r with
    | tup q =>
      rename_i cs'
      have hok : ∀ q ∈ cs.flatMap stopIds, okQ H q := hok
      obtain ⟨ss, h1, h2⟩ := sexpL_of (fun s hs c K r hk => sexpT_tq (vbase := vbase) hH hR r hk (fun q hq => hok q (List.mem_flatMap.2 ⟨s, hs, hq⟩))) q h
      obtain ⟨h3, h4⟩ := R3_tq h2
      refine ⟨_, h1, h3, fun qs' hq => ?_⟩
      obtain ⟨ws, g1, g2⟩ := h4 qs' hq
      exact ⟨.tup ws, by simp only [expV, g1]; rfl, .tup g2⟩
  · rename_i hne
    have e1 : sallIds s = stopIds s := by cases s <;> first | rfl | exact absurd rfl (hne _)
    rw [e1] at hok
    obtain ⟨s', h1, h2, h3⟩ := sexpT_tq (vbase := vbase) hH hR r h hok
    have hca : ∀ cs, c ≠ .tup cs := by
      intro cs q
      subst q
      cases r with
      | any => simp only [sexpT, sexpC, sreify] at h; cases h
      | tup => exact hne _ rfl
      | ptrB _ _ _ ho => cases ho
      | slB _ _ _ ho => cases ho
    have e2 : allIds c = topIds c := by cases c <;> first | rfl | exact absurd rfl (hca _)
    refine ⟨s', h1, by rw [e1, e2]; exact h2, fun qs' hq => ?_⟩
    obtain ⟨w, g1, g2⟩ := h3 qs' hq
    refine ⟨w, ?_, g2⟩
    unfold expV
    split
    · exact absurd rfl (hca _)
    · exact g1
theorem sexpC_ex {R : SHeap} (hR : RH ε R L) {ids : List Nat} {base : Nat} {s : SV} {c : V} {K : SV → Prop} (r : RV ε s c) (h : sexpC R ids base s K) : ∃ s', K s' ∧ True := by
  unfold sexpC at h
  split at h
  · split at h
    · exact ⟨_, h, trivial⟩
    · cases h
  · obtain ⟨s', rs, w, rs', h1, _⟩ := sreify_of hR 50 60 s c _ (by omega) r h
    exact ⟨s', h1, trivial⟩
theorem sexpT_ex {R : SHeap} (hR : RH ε R L) {ids : List Nat} {base : Nat} {s : SV} {c : V} {K : SV → Prop} (r : RV ε s c) (h : sexpT R ids base s K) : ∃ s', K s' ∧ True := by
  unfold sexpT at h
  split at h
  · cases r with
    | agg q =>
      obtain ⟨ss, h1, _⟩ := sexpL_of (Q := fun _ _ _ => True) (fun s _ c K r hk => sexpC_ex hR r hk) q h
      exact ⟨_, h1, trivial⟩
  · exact sexpC_ex hR r h
theorem sexpV_ex {R : SHeap} (hR : RH ε R L) {ids : List Nat} {base : Nat} {s : SV} {c : V} {K : SV → Prop} (r : RV ε s c) (h : sexpV R ids base s K) : ∃ s', K s' := by
  unfold sexpV at h
  split at h
  · cases r with
    | tup q =>
      obtain ⟨ss, h1, _⟩ := sexpL_of (Q := fun _ _ _ => True) (fun s _ c K r hk => sexpT_ex hR r hk) q h
      exact ⟨_, h1⟩
  · obtain ⟨s', h1, _⟩ := sexpT_ex hR r h
    exact ⟨s', h1⟩
/-- Rows that go back. -/
theorem sexportT_of (hH : RH ε H L) {base vbase : Nat} {s : SV} {c : V} {K : SV → List SBlk → Prop} (r : RV ε s c) (h : sexportT H base s K) :
    ∃ v blks s' ss, exportT L vbase c = some (v, blks) ∧ K s' ss ∧ NewR (newsE noE base vbase ss.length) ss blks ∧ RV (newsE noE base vbase ss.length) s' v := by
  have h' : bif nodupB ((sallIds s).map (·.1)) then sexpV (shrem H ((sallIds s).map (·.1))) ((sallIds s).map (·.1)) base s (fun v' => sexpB H (shrem H ((sallIds s).map (·.1))) (sallIds s) fun bs => K v' bs) else _ := h
  obtain ⟨hnd, h1⟩ := bif_of h'
  clear h h'
  have hR0 : RH ε (shrem H ((sallIds s).map (·.1))) L := by
    refine ⟨fun b blk hb => ?_, fun b1 b2 blk1 blk2 e1 e2 c v1 v2 g1 g2 => ?_⟩
    · rw [shrem_get] at hb
      split at hb
      · cases hb
      · exact hH.at_ b blk hb
    · rw [shrem_get] at g1 g2
      split at g1
      · cases g1
      · split at g2
        · cases g2
        · exact hH.inj b1 b2 blk1 blk2 e1 e2 c v1 v2 g1 g2
  obtain ⟨s0, h2⟩ := sexpV_ex hR0 r h1
  have hok := (sexpB_of hH hR0 h2).1
  obtain ⟨_, _, hq, _⟩ := sexpV_tq (vbase := vbase) hH hR0 r h1 hok
  have hR := rem_rel hH hq
  obtain ⟨s', h3, _, h4⟩ := sexpV_tq (vbase := vbase) hH hR r h1 hok
  obtain ⟨w, h5, h6⟩ := h4 _ hq
  obtain ⟨ss, bs, h7, h8, h9, h10⟩ := (sexpB_of hH hR h3).2 _ hq
  refine ⟨w, bs, s', ss, ?_, h7, h10 _, by rw [h9]; exact h6⟩
  unfold exportT
  simp only
  rw [if_pos (nodup_rel hH hq hnd), h5, h8]
end
end
end Go.Proofs.Ytifgifhbefhkmaa.VM
