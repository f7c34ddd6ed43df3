/- The law of two sites. No conditions. -/
import Derived.Test.YtaefpedblfhabaaProg
import Derived.KernelRfl
import Derived.Test.YtaefpedblfhabaaSoL
namespace Go.Proofs.Ytaefpedblfhabaa.VM
open Go Go.RowKit
set_option linter.unusedVariables false
set_option linter.unusedSimpArgs false
set_option maxRecDepth 100000
noncomputable section
theorem R.eta (r : R) {p b e l h f : Int} {q a : Bool} (h1 : p = r.pair) (h2 : b = r.born) (h3 : e = r.epoch) (h4 : l = r.lead) (h5 : h = r.phase) (h6 : f = r.frm) (h7 : q = true ↔ r.quick = true) (h8 : a = true ↔ r.alone = true) : r = ⟨p, b, e, l, h, f, q, a⟩ := by
  cases r; simp only at *; subst h1 h2 h3 h4 h5 h6
  congr
  · cases q <;> simp_all
  · cases a <;> simp_all
theorem exU {K : Prop} : (∃ (_ : Unit), True ∧ True ∧ K) ↔ K := ⟨fun ⟨_, _, _, h⟩ => h, fun h => ⟨(), trivial, trivial, h⟩⟩
theorem exR {p b e l h f : Int} {q a : Bool} {K : R → Prop} : (∃ y : R, ((p = R.pair y ∧ b = R.born y ∧ e = R.epoch y ∧ l = R.lead y ∧ h = R.phase y ∧ f = R.frm y ∧ (q = true ↔ R.quick y = true) ∧ (a = true ↔ R.alone y = true) ∧ True) ∧ True) ∧ True ∧ K y) ↔ K ⟨p, b, e, l, h, f, q, a⟩ := by
  constructor
  · rintro ⟨y, ⟨⟨h1, h2, h3, h4, h5, h6, h7, h8, _⟩, _⟩, _, k⟩
    rw [← R.eta y h1 h2 h3 h4 h5 h6 h7 h8]; exact k
  · intro k; exact ⟨_, ⟨⟨rfl, rfl, rfl, rfl, rfl, rfl, Iff.rfl, Iff.rfl, trivial⟩, trivial⟩, trivial, k⟩
theorem exRR {p b e l h f p' b' e' l' h' f' : Int} {q a q' a' : Bool} {K : R × R → Prop} : (∃ y : R × R, ((p = R.pair (Prod.fst y) ∧ b = R.born (Prod.fst y) ∧ e = R.epoch (Prod.fst y) ∧ l = R.lead (Prod.fst y) ∧ h = R.phase (Prod.fst y) ∧ f = R.frm (Prod.fst y) ∧ (q = true ↔ R.quick (Prod.fst y) = true) ∧ (a = true ↔ R.alone (Prod.fst y) = true) ∧ True) ∧ (p' = R.pair (Prod.snd y) ∧ b' = R.born (Prod.snd y) ∧ e' = R.epoch (Prod.snd y) ∧ l' = R.lead (Prod.snd y) ∧ h' = R.phase (Prod.snd y) ∧ f' = R.frm (Prod.snd y) ∧ (q' = true ↔ R.quick (Prod.snd y) = true) ∧ (a' = true ↔ R.alone (Prod.snd y) = true) ∧ True) ∧ True) ∧ True ∧ K y) ↔ K (⟨p, b, e, l, h, f, q, a⟩, ⟨p', b', e', l', h', f', q', a'⟩) := by
  constructor
  · rintro ⟨⟨y, z⟩, ⟨⟨h1, h2, h3, h4, h5, h6, h7, h8, _⟩, ⟨g1, g2, g3, g4, g5, g6, g7, g8, _⟩, _⟩, _, k⟩
    rw [← R.eta y h1 h2 h3 h4 h5 h6 h7 h8, ← R.eta z g1 g2 g3 g4 g5 g6 g7 g8]; exact k
  · intro k; exact ⟨_, ⟨⟨rfl, rfl, rfl, rfl, rfl, rfl, Iff.rfl, Iff.rfl, trivial⟩, ⟨rfl, rfl, rfl, rfl, rfl, rfl, Iff.rfl, Iff.rfl, trivial⟩, trivial⟩, trivial, k⟩
theorem exRI {p b e l h f : Int} {q a : Bool} {o : Int} {K : R × Int → Prop} : (∃ y : R × Int, ((p = R.pair (Prod.fst y) ∧ b = R.born (Prod.fst y) ∧ e = R.epoch (Prod.fst y) ∧ l = R.lead (Prod.fst y) ∧ h = R.phase (Prod.fst y) ∧ f = R.frm (Prod.fst y) ∧ (q = true ↔ R.quick (Prod.fst y) = true) ∧ (a = true ↔ R.alone (Prod.fst y) = true) ∧ True) ∧ o = Prod.snd y ∧ True) ∧ True ∧ K y) ↔ K (⟨p, b, e, l, h, f, q, a⟩, o) := by
  constructor
  · rintro ⟨⟨y, z⟩, ⟨⟨h1, h2, h3, h4, h5, h6, h7, h8, _⟩, rfl, _⟩, _, k⟩
    rw [← R.eta y h1 h2 h3 h4 h5 h6 h7 h8]; exact k
  · intro k; exact ⟨_, ⟨⟨rfl, rfl, rfl, rfl, rfl, rfl, Iff.rfl, Iff.rfl, trivial⟩, rfl, trivial⟩, trivial, k⟩
theorem exIRI {p b e l h f : Int} {q a : Bool} {s o : Int} {K : Int × R × Int → Prop} : (∃ y : Int × R × Int, (s = Prod.fst y ∧ (p = R.pair (Prod.fst (Prod.snd y)) ∧ b = R.born (Prod.fst (Prod.snd y)) ∧ e = R.epoch (Prod.fst (Prod.snd y)) ∧ l = R.lead (Prod.fst (Prod.snd y)) ∧ h = R.phase (Prod.fst (Prod.snd y)) ∧ f = R.frm (Prod.fst (Prod.snd y)) ∧ (q = true ↔ R.quick (Prod.fst (Prod.snd y)) = true) ∧ (a = true ↔ R.alone (Prod.fst (Prod.snd y)) = true) ∧ True) ∧ o = Prod.snd (Prod.snd y) ∧ True) ∧ True ∧ K y) ↔ K (s, ⟨p, b, e, l, h, f, q, a⟩, o) := by
  constructor
  · rintro ⟨⟨x, y, z⟩, ⟨rfl, ⟨h1, h2, h3, h4, h5, h6, h7, h8, _⟩, rfl, _⟩, _, k⟩
    rw [← R.eta y h1 h2 h3 h4 h5 h6 h7 h8]; exact k
  · intro k; exact ⟨_, ⟨rfl, ⟨rfl, rfl, rfl, rfl, rfl, rfl, Iff.rfl, Iff.rfl, trivial⟩, rfl, trivial⟩, trivial, k⟩
theorem R.mk_eta (r : R) : R.mk r.pair r.born r.epoch r.lead r.phase r.frm r.quick r.alone = r := rfl
def R.al (r : R) (x : Bool) : R := ⟨r.pair, r.born, r.epoch, r.lead, r.phase, r.frm, r.quick, x⟩
theorem R.al_mk (r : R) (x : Bool) : R.mk r.pair r.born r.epoch r.lead r.phase r.frm r.quick x = r.al x := rfl
theorem checkE_al (r : R) (x : Bool) : checkE (r.al x) = checkE r := rfl
theorem nextE_al (r : R) (x : Bool) (op : Int) : nextE (r.al x) op = nextE r op := rfl
theorem nextR_al (r : R) (x : Bool) (op : Int) : nextR (r.al x) op = nextR r op := rfl
theorem wr32_nn (x : Int) : 0 ≤ IntKind.wrap IntKind.u32 x := by
  have : IntKind.wrap IntKind.u32 x = x % 4294967296 := by simp [IntKind.wrap, IntKind.signed, IntKind.bits]
  omega
theorem checkE_0 {r : R} : checkE r = 0 ↔ r.ok = true := by
  unfold checkE
  split <;> simp_all
theorem fA (r : R) (zero one : Bool) : bothX (r.al zero) (r.al one) = true → freeX (r.al zero) = true ∨ freeX (r.al one) = true := by
  obtain ⟨pair, born, epoch, lead, phase, frm, quick, alone⟩ := r
  unfold bothX writesX writesB freeX R.al
  cases zero <;> cases one <;> simp
  omega
theorem askE_0 {s : Int} {r : R} {op : Int} (h : askE s r op = 0) : 2 ≤ op ∧ op ≤ 8 ∧ (s = 0 ∨ s = 1) := by
  unfold askE siteOk at h
  split at h
  · split at h
    · simp_all
    · cases h
  · contradiction
theorem orderE_0 {s : Int} {r : R} {op : Int} (h : orderE s r op = 0) : askE s r op = 0 ∧ ordered s r op = true := by
  unfold orderE at h
  split at h
  · split at h
    · exact ⟨by assumption, by assumption⟩
    · cases h
  · contradiction
theorem joinE_0 {s : Int} {r : R} {op : Int} (h : joinE s r op = 0) : askE s r op = 0 ∧ joined s r op = true := by
  unfold joinE at h
  split at h
  · split at h
    · exact ⟨by assumption, by assumption⟩
    · cases h
  · contradiction
theorem ok_of {r : R} (h : r.ok = true) : (0 ≤ r.pair ∧ r.pair < 3 ∧ 0 < r.born ∧ 0 < r.epoch) ∧ (r.lead = 0 ∨ r.lead = 1) ∧ (r.frm = 0 ∨ r.frm = 1) ∧ (r.phase = 1 ∨ r.phase = 2 ∨ r.phase = 3) := by
  unfold R.ok at h
  simp only [Bool.and_eq_true, Bool.or_eq_true, decide_eq_true_eq] at h
  omega
def NextOK (r : R) (x : Bool) (op s : Int) (N : R) : Prop :=
  N.ok = true ∧ N.epoch = IntKind.wrap IntKind.u32 (r.epoch + 1) ∧ N.born = r.born ∧ N.alone = false ∧ (s = 0 → bothX (r.al x) N = true → freeX (r.al x) = true ∨ freeX N = true) ∧ (s = 1 → bothX N (r.al x) = true → freeX (r.al x) = true ∨ freeX N = true) ∧ (bothX N N = true → freeX N = true)
set_option maxHeartbeats 0 in
theorem fB (r : R) (x y : Bool) (op s : Int) (hs : s = 0 ∨ s = 1) (h : checkE r = 0) (ho : orderE s (r.al x) op = 0) (hj : joinE (1 - s) (r.al y) op = 0) :
    (nextE r op = 0 ∨ nextE r op = 9) ∧ (nextE r op = 0 → NextOK r x op s (nextR r op)) := by
  obtain ⟨ha, ho⟩ := orderE_0 ho
  obtain ⟨_, hj⟩ := joinE_0 hj
  obtain ⟨h2, h8, _⟩ := askE_0 ha
  have hk := checkE_0.1 h
  obtain ⟨⟨g1, g2, g3, g4⟩, gl, gf, gp⟩ := ok_of hk
  have hA : askE 0 r op = 0 := by
    unfold askE siteOk
    rw [if_pos h, if_pos (by simp [h2, h8])]
  have hE : nextE r op = if IntKind.wrap IntKind.u32 (r.epoch + 1) = 0 then 9 else 0 := by
    unfold nextE
    rw [if_pos hA]
  refine ⟨by rw [hE]; split <;> simp, fun hn => ?_⟩
  have hw : 0 < IntKind.wrap IntKind.u32 (r.epoch + 1) := by
    have := wr32_nn (r.epoch + 1)
    rw [hE] at hn
    split at hn
    · cases hn
    · omega
  have hR : nextR r op = ⟨r.pair, r.born, IntKind.wrap IntKind.u32 (r.epoch + 1), leadN r op, if op = 2 then 3 else if op = 7 ∨ op = 8 then 2 else 1, if op = 4 ∨ op = 5 then IntKind.wrap IntKind.i64 (1 - leadN r op) else leadN r op, decide (op = 5), false⟩ := by
    unfold nextR
    rw [if_pos hn]
  rw [hR]
  obtain ⟨pair, born, epoch, lead, phase, frm, quick, alone⟩ := r
  unfold NextOK
  simp only
  generalize IntKind.wrap IntKind.u32 (epoch + 1) = ep at hw ⊢
  clear hE hR hn hA ha h hk
  have w0 : IntKind.wrap IntKind.i64 0 = 0 := by decide
  have w1 : IntKind.wrap IntKind.i64 1 = 1 := by decide
  simp only at g1 g2 g3 g4 gl gf gp
  have hop : op = 2 ∨ op = 3 ∨ op = 4 ∨ op = 5 ∨ op = 6 ∨ op = 7 ∨ op = 8 := by omega
  clear h2 h8
  rcases hop with rfl | rfl | rfl | rfl | rfl | rfl | rfl <;> rcases hs with rfl | rfl <;> rcases gl with rfl | rfl <;>
    simp [ordered, joined, R.al, target] at ho hj
  all_goals
    rcases gf with rfl | rfl <;> rcases gp with rfl | rfl | rfl <;> simp at ho hj
  all_goals
    simp [R.ok, leadN, bothX, writesX, writesB, freeX, target, R.al, g1, g2, g3, g4, hw, w0, w1]
  all_goals (intros; simp_all)
set_option maxHeartbeats 0 in
theorem law0 (r : R) (zero one : Bool) (op : Int) : scallI sxM Try.prog cf0 (sexec sxM Try.prog cf0 1000) 3 0 [r.l, .bool (.sym (zero = true)), .bool (.sym (one = true)), .bool (.lit false), .int .u8 (.sym op)] (post (.bool (.lit true))) := by
  rw [vc_law0]
  simp only [exU, exR, exRR, exRI, exIRI, R.mk_eta, R.al_mk, checkE_al, nextE_al, nextR_al]
  by_cases hc : checkE r = 0
  · have hA := fA r zero one
    by_cases ho : orderE 0 (r.al zero) op = 0
    · by_cases hj : joinE 1 (r.al one) op = 0
      · obtain ⟨h1, h2⟩ := fB r zero one op 0 (.inl rfl) hc ho hj
        rcases h1 with h1 | h1
        · obtain ⟨n1, n2, n3, n4, n5, _, n7⟩ := h2 h1
          have n1 := checkE_0.2 n1
          generalize nextR r op = N at *
          have n5 := n5 rfl
          have e : N.al N.alone = N := rfl
          generalize r.al zero = a at *
          generalize r.al one = b at *
          cases c1 : bothX a b <;> cases c2 : freeX a <;> cases c3 : freeX b <;> cases c4 : bothX a N <;> cases c5 : freeX N <;> cases c6 : bothX N N <;> simp_all
        · generalize nextR r op = N at *
          generalize r.al zero = a at *
          generalize r.al one = b at *
          cases c1 : bothX a b <;> cases c2 : freeX a <;> cases c3 : freeX b <;> simp_all
      · cases c1 : bothX (r.al zero) (r.al one) <;> cases c2 : freeX (r.al zero) <;> cases c3 : freeX (r.al one) <;> simp_all
    · cases c1 : bothX (r.al zero) (r.al one) <;> cases c2 : freeX (r.al zero) <;> cases c3 : freeX (r.al one) <;> simp_all
  · simp [hc]
set_option maxHeartbeats 0 in
theorem law1 (r : R) (zero one : Bool) (op : Int) : scallI sxM Try.prog cf0 (sexec sxM Try.prog cf0 1000) 3 0 [r.l, .bool (.sym (zero = true)), .bool (.sym (one = true)), .bool (.lit true), .int .u8 (.sym op)] (post (.bool (.lit true))) := by
  rw [vc_law1]
  simp only [exU, exR, exRR, exRI, exIRI, R.mk_eta, R.al_mk, checkE_al, nextE_al, nextR_al]
  by_cases hc : checkE r = 0
  · have hA := fA r zero one
    by_cases ho : orderE 1 (r.al one) op = 0
    · by_cases hj : joinE 0 (r.al zero) op = 0
      · obtain ⟨h1, h2⟩ := fB r one zero op 1 (.inr rfl) hc ho hj
        rcases h1 with h1 | h1
        · obtain ⟨n1, n2, n3, n4, _, n5, n7⟩ := h2 h1
          have n1 := checkE_0.2 n1
          generalize nextR r op = N at *
          have n5 := n5 rfl
          have e : N.al N.alone = N := rfl
          generalize r.al zero = a at *
          generalize r.al one = b at *
          cases c1 : bothX a b <;> cases c2 : freeX a <;> cases c3 : freeX b <;> cases c4 : bothX N b <;> cases c5 : freeX N <;> cases c6 : bothX N N <;> simp_all
        · generalize nextR r op = N at *
          generalize r.al zero = a at *
          generalize r.al one = b at *
          cases c1 : bothX a b <;> cases c2 : freeX a <;> cases c3 : freeX b <;> simp_all
      · cases c1 : bothX (r.al zero) (r.al one) <;> cases c2 : freeX (r.al zero) <;> cases c3 : freeX (r.al one) <;> simp_all
    · cases c1 : bothX (r.al zero) (r.al one) <;> cases c2 : freeX (r.al zero) <;> cases c3 : freeX (r.al one) <;> simp_all
  · simp [hc]
theorem law_all (r : R) (zero one at_ : Bool) (op : Int) : scallI sxM Try.prog cf0 (sexec sxM Try.prog cf0 1000) 3 0 [r.l, .bool (.sym (zero = true)), .bool (.sym (one = true)), .bool (.lit at_), .int .u8 (.sym op)] (post (.bool (.lit true))) := by
  cases at_
  · exact law0 r zero one op
  · exact law1 r zero one op
theorem lo_i : LO Try.prog 3 1 (eI .i64) (fun n => IntKind.min .i64 ≤ n ∧ n ≤ IntKind.max .i64) := lo_int Try.underlying3 (by kernel_rfl)
theorem lo_u8 : LO Try.prog 5 1 (eI .u8) (fun n => IntKind.min .u8 ≤ n ∧ n ≤ IntKind.max .u8) := lo_int Try.underlying5 (by kernel_rfl)
theorem lo_u32 : LO Try.prog 22 1 (eI .u32) (fun n => IntKind.min .u32 ≤ n ∧ n ≤ IntKind.max .u32) := lo_int Try.underlying22 (by kernel_rfl)
theorem lo_b : LO Try.prog 4 1 eO (fun _ => True) := lo_bool Try.underlying4 (by kernel_rfl)
theorem lo_rec : LO Try.prog 24 8 R.cells (fun _ => True) :=
  lo_struct (ts := [3, 22, 22, 3, 5, 3, 4, 4]) Try.underlying24 (by kernel_rfl) (by kernel_rfl) (by kernel_rfl) (lf_cons lo_i (lf_cons lo_u32 (lf_cons lo_u32 (lf_cons lo_i (lf_cons lo_u8 (lf_cons lo_i (lf_cons lo_b (lf_one lo_b))))))))
    (fun x => ⟨x.1, x.2.1, x.2.2.1, x.2.2.2.1, x.2.2.2.2.1, x.2.2.2.2.2.1, x.2.2.2.2.2.2.1, x.2.2.2.2.2.2.2⟩) R.cells (fun _ => True) (fun _ => rfl) (fun _ _ => trivial)
theorem walk (r : R) (zero one at_ : Bool) (op : Int) (_ : True) (_ : True) (_ : True) (_ : True) (_ : IntKind.min .u8 ≤ op ∧ op ≤ IntKind.max .u8) :
    ∃ sx : SX, SXOK Try.prog cf0 sx ∧ scallI sx Try.prog cf0 (sexec sx Try.prog cf0 1000) 3 0 [.agg r.cells, .bool (.sym (zero = true)), .bool (.sym (one = true)), .bool (.lit at_), .int .u8 (.sym op)] (post (.bool (.lit true))) :=
  ⟨sxM, sxM_ok, law_all r zero one at_ op⟩

end
end Go.Proofs.Ytaefpedblfhabaa.VM
