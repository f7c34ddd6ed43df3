/- Values with labels: loops by what is kept from one round to the next. No conditions. -/
import Derived.Test.YtifgifhbefhkmaaSVv
namespace Go.Proofs.Ytifgifhbefhkmaa.VM
set_option linter.unusedSimpArgs false
set_option linter.unusedVariables false
open Go Go.RowKit
noncomputable section

/-- A state, to be looked at. -/
inductive Show (st : SSt) : Prop
/-- A value told anew: its blocks by the versions of another heap; what is not in there is forgotten. -/
def reV (H H' : SHeap) : Nat → SV → SV
  | 0, _ => .any
  | n + 1, v => match v with
    | .agg cs => .agg (cs.map (reV H H' n))
    | .tup cs => .tup (cs.map (reV H H' n))
    | .iface t v => .iface t (reV H H' n v)
    | .func fn f c => .func fn (f.map (reV H H' n)) (c.map (reV H H' n))
    | .ptrI fr ex (.lit l) => .ptrI fr ex (.lit (l.map (reV H H' n)))
    | .slI fr (.lit l) m tt => .slI fr (.lit (l.map (reV H H' n))) m tt
    | .ptrB b e k f ver => (match sget H b, sget H' b with
      | some x, some x' => bif Nat.beq x.ver ver then .ptrB b e k f x'.ver else .any
      | _, _ => .any)
    | .slB b e k ver m => (match sget H b, sget H' b with
      | some x, some x' => bif Nat.beq x.ver ver then .slB b e k x'.ver m else .any
      | _, _ => .any)
    | v => v
/-- So many temporaries, some of them told. -/
def stT (n : Nat) (l : List (Nat × SV)) : List SV := l.foldl (fun t p => ssetn t p.1 p.2) (List.replicate n .any)
theorem SameCode.refl (c : Code) : SameCode c c := ⟨rfl⟩
def wkC (H H' : SHeap) (a b : SC) : Prop :=
  match a, b with
  | .lit l, .lit m => sles (l.map (reV H H' 12)) m
  | .lit l, .rows e k d fl xs => ROK e k d fl ∧ sles (l.map (reV H H' 12)) (xs.flatMap e)
  | a, b => a = b
def wkH (R nx0 nx : Nat) (H H' : SHeap) : SHeap → Prop
  | [] => True
  | (b, x') :: r => (match sget H b with
    | some x => bif Nat.blt b nx && Nat.beq x.k x'.k && (Nat.beq x'.ver x.ver || Nat.beq x'.ver R) && (!x.lz || x'.lz) && (x'.fz || !x.fz) then wkC H H' x.cells x'.cells else Stuck 270
    | none => bif x'.lz && Nat.ble nx0 b && Nat.blt b nx then (match x'.cells with
      | .lit l => l = []
      | .rows e k d fl xs => ROK e k d fl ∧ xs = []) else Stuck 271) ∧ wkH R nx0 nx H H' r
/-- A nil slice may stand for one whose block is not there yet. -/
def lzNew (st st' : SSt) (bb ver : Nat) : Bool := match sget st.H bb, sget st'.H bb with
  | none, some x' => x'.lz && Nat.beq x'.ver ver && Nat.ble st.nx bb
  | _, _ => false
def nil1 (st st' : SSt) (a b : SV) : SV := match a with
  | .nilSl => (match b with
    | .slB bb e k ver n => bif lzNew st st' bb ver then .slB bb e k ver n else .nilSl
    | _ => .nilSl)
  | a => a
def nil1K (st st' : SSt) (a b : SV) (K : Prop) : Prop := match a with
  | .nilSl => (match b with
    | .slB bb e k ver n => bif lzNew st st' bb ver then e.val = 0 ∧ n.val = 0 ∧ K else K
    | _ => K)
  | _ => K
def nilFix (st st' : SSt) (l : List SV) : List SV → List SV :=
  List.rec (motive := fun _ => List SV → List SV) (fun _ => []) (fun a _ ih m => match m with
    | [] => a :: ih []
    | b :: m => nil1 st st' a b :: ih m) l
def nilK (st st' : SSt) (K : Prop) (l : List SV) : List SV → Prop :=
  List.rec (motive := fun _ => List SV → Prop) (fun _ => K) (fun a _ ih m => match m with
    | [] => ih []
    | b :: m => nil1K st st' a b (ih m)) l
/-- All that the first state may be, the second may be. -/
def wk (R : Nat) (st st' : SSt) : Prop :=
  nilK st st' (sles (nilFix st st' (st.t.map (reV st.H st'.H 12)) st'.t) st'.t ∧ wkH R st.nx st'.nx st.H st'.H st'.H) (st.t.map (reV st.H st'.H 12)) st'.t
def oldB (R nx : Nat) (H : SHeap) : SHeap → Bool
  | [] => true
  | (b, _) :: r => (Nat.ble nx b || match sget H b with
    | some x0 => Nat.blt x0.ver R
    | none => false) && oldB R nx H r
/-- A state's blocks are those of an elder state or new. -/
def exB (R : Nat) (st0 st' : SSt) : Bool := Nat.ble st0.nx st'.nx && oldB R st0.nx st0.H st'.H
def exS (R : Nat) (st0 st' : SSt) (K : Prop) : Prop := bif exB R st0 st' then K else Stuck 272

section
variable {ε ε' : Nat → Option BE} {H H' : SHeap} {L : Heap}

theorem RL.map {f : SV → SV} : ∀ {l : List SV} {vs : List V}, RL ε l vs → (∀ s ∈ l, ∀ v, RV ε s v → RV ε' (f s) v) → RL ε' (l.map f) vs
  | _, _, .nil, _ => .nil
  | s :: l, _, .cons r q, h => .cons (h s (List.mem_cons_self ..) _ r) (RL.map q fun s hs => h s (List.mem_cons_of_mem _ hs))
theorem RL.keep : ∀ {l : List SV} {vs : List V}, RL ε l vs → (∀ s ∈ l, ∀ v, RV ε s v → RV ε' s v) → RL ε' l vs
  | _, _, .nil, _ => .nil
  | s :: l, _, .cons r q, h => .cons (h s (List.mem_cons_self ..) _ r) (RL.keep q fun s hs => h s (List.mem_cons_of_mem _ hs))
theorem imm_any : ∀ (n : Nat) (s : SV) (v : V), imm n s → RV ε s v → RV ε' s v
  | 0, _, _, h, _ => by cases h
  | n + 1, s, v, h, r => by
    have ih : ∀ (s : SV) (v : V), imm n s → RV ε s v → RV ε' s v := fun s v => imm_any n s v
    have ihl : ∀ {l : List SV} {vs : List V}, RL ε l vs → (∀ s ∈ l, imm n s) → RL ε' l vs := fun hl hi => RL.keep hl fun s hs v hv => ih s v (hi s hs) hv
    cases r <;> simp only [imm] at h
    case int k i m hm => exact .int _ _ _ hm
    case bool b c hb => exact .bool _ _ hb
    case str x => exact .str x
    case strS x => exact .strS x
    case nilIface => exact .nilIface
    case nilFunc => exact .nilFunc
    case nilPtr => exact .nilPtr
    case nilSl => exact .nilSl
    case agg q => exact .agg (ihl q h)
    case tup q => exact .tup (ihl q h)
    case iface q => exact .iface _ (ih _ _ h q)
    case func q1 q2 => exact .func _ (ihl q1 h.1) (ihl q2 h.2)
    case ptrI cs cs' rest hf hr hc hx =>
      refine .ptrI hf ?_ hc hx
      cases cs with
      | lit l => exact ihl hr h.2.2
      | rows e k d fl xs => exact ihl hr fun s hs => imm_mono d n s h.2.2 (rows_imm hc s hs)
    case slI cs cs' m' mm hn hf ht hc hr =>
      refine .slI ‹_› ‹_› ‹_› ?_ ‹_›
      cases cs with
      | lit l => exact ihl ‹_› h.2
      | rows e k d fl xs => exact ihl ‹_› fun s hs => imm_mono d n s h.2 (rows_imm ‹_› s hs)
    case slIn hn hc => exact .slIn hn hc
    case slI0 => exact .slI0 ‹_› ‹_› ‹_› ‹_›
theorem rows_any {α : Type} {e : α → List SV} {k d : Nat} {fl : Bool} {xs : List α} {vs : List V} (hc : COK (.rows e k d fl xs)) (h : RL ε (SC.rows e k d fl xs).list vs) : RL ε' (SC.rows e k d fl xs).list vs :=
  RL.keep h fun s hs v hv => imm_any d s v (rows_imm hc s hs) hv

/-- How the labels go over. -/
def Re (ε ε' : Nat → Option BE) (H H' : SHeap) : Prop := ∀ b x x', sget H b = some x → sget H' b = some x' → ∀ e, ε b = some e → e.sv = x.ver ∧ ε' b = some ⟨x'.ver, e.act⟩
theorem reV_rel (hre : Re ε ε' H H') : ∀ (n : Nat) (s : SV) (v : V), RV ε s v → RV ε' (reV H H' n s) v
  | 0, s, v, r => .any v
  | n + 1, s, v, r => by
    have ih := reV_rel hre n
    have ihl : ∀ {l : List SV} {vs : List V}, RL ε l vs → RL ε' (l.map (reV H H' n)) vs := fun hl => RL.map hl fun s _ v hv => ih s v hv
    cases r with
    | any => exact .any _
    | int k i m hm => exact .int _ _ _ hm
    | bool b c hb => exact .bool _ _ hb
    | str x => exact .str x
    | strS x => exact .strS x
    | nilIface => exact .nilIface
    | nilFunc => exact .nilFunc
    | nilPtr => exact .nilPtr
    | nilSl => exact .nilSl
    | agg q => exact .agg (ihl q)
    | tup q => exact .tup (ihl q)
    | iface t q => exact .iface _ (ih _ _ q)
    | func fn q1 q2 => exact .func _ (ihl q1) (ihl q2)
    | @ptrI fr fr' ex cs cs' rest hf hr hc hx =>
      cases cs with
      | lit l => exact .ptrI hf (ihl hr) trivial hx
      | rows e k d fl xs => exact .ptrI hf (rows_any hc hr) hc hx
    | @slI fr fr' tight tight' cs cs' n' m hf ht hn hr hc =>
      cases cs with
      | lit l => exact .slI hf ht hn (ihl hr) trivial
      | rows e k d fl xs => exact .slI hf ht hn (rows_any hc hr) hc
    | @slIn fr tight cs n' hn hc =>
      cases cs with
      | lit l => exact .slIn hn trivial
      | rows e k d fl xs => exact .slIn hn hc
    | @slI0 fr fr' tight tight' cs n' hf ht hn hc =>
      cases cs with
      | lit l => exact .slI0 hf ht hn trivial
      | rows e k d fl xs => exact .slI0 hf ht hn hc
    | @ptrB b k f ver o v e he hv hp ho =>
      unfold reV
      simp only
      split
      · rename_i x x' hx hx'
        cases hq : Nat.beq x.ver ver with
        | false => exact .any _
        | true =>
          obtain ⟨g1, g2⟩ := hre b x x' hx hx' e he
          exact .ptrB g2 (Nat.le_refl _) (fun _ => hp (g1.trans (beqT hq))) ho
      · exact .any _
    | @slB b k ver o m v e he hv hp ho =>
      unfold reV
      simp only
      split
      · rename_i x x' hx hx'
        cases hq : Nat.beq x.ver ver with
        | false => exact .any _
        | true =>
          obtain ⟨g1, g2⟩ := hre b x x' hx hx' e he
          exact .slB g2 (Nat.le_refl _) (fun _ => hp (g1.trans (beqT hq))) ho
      · exact .any _
theorem reL_rel (hre : Re ε ε' H H') {l : List SV} {vs : List V} (h : RL ε l vs) : RL ε' (l.map (reV H H' 12)) vs := RL.map h fun s _ v hv => reV_rel hre 12 s v hv
theorem wkC_rel (hre : Re ε ε' H H') {a b : SC} {vs : List V} (hc : COK a) (h : wkC H H' a b) (r : RL ε a.list vs) : RL ε' b.list vs ∧ COK b := by
  unfold wkC at h
  split at h
  · exact ⟨sles_rel h (reL_rel hre r), trivial⟩
  · exact ⟨sles_rel h.2 (reL_rel hre r), h.1⟩
  · rename_i h1 h2
    subst h
    refine ⟨?_, hc⟩
    cases a with
    | lit l => exact absurd rfl (h1 l l rfl)
    | rows e k d fl xs => exact rows_any hc r
theorem wkH_get {R nx0 nx : Nat} : ∀ {G : SHeap}, wkH R nx0 nx H H' G → ∀ b x', sget G b = some x' → b < nx ∧ ((∃ x, sget H b = some x ∧ x.k = x'.k ∧ (x'.ver = x.ver ∨ x'.ver = R) ∧ (x.lz = true → x'.lz = true) ∧ (x'.fz = false → x.fz = false) ∧ wkC H H' x.cells x'.cells) ∨ (sget H b = none ∧ nx0 ≤ b ∧ x'.lz = true ∧ x'.cells.list = [] ∧ COK x'.cells))
  | [], _, b, x', h => by cases h
  | (c, y) :: r, hk, b, x', h => by
    obtain ⟨h1, h2⟩ := hk
    rw [sget_cons] at h
    split at h
    · rename_i q
      subst q
      cases h
      split at h1
      · rename_i x hx
        obtain ⟨hq, h1⟩ := bif_of h1
        simp only [Bool.and_eq_true, Bool.or_eq_true, Bool.not_eq_true', Nat.blt_eq] at hq
        obtain ⟨⟨⟨⟨q1, q2⟩, q3⟩, q4⟩, q6⟩ := hq
        refine ⟨q1, .inl ⟨x, hx, beqT q2, q3.imp beqT beqT, fun q7 => ?_, fun q7 => ?_, h1⟩⟩
        · rcases q4 with q4 | q4
          · rw [q7] at q4; cases q4
          · exact q4
        · rcases q6 with q6 | q6
          · rw [q7] at q6; cases q6
          · exact q6
      · rename_i hx
        obtain ⟨hq, h1⟩ := bif_of h1
        simp only [Bool.and_eq_true, Nat.blt_eq] at hq
        obtain ⟨⟨q1, q2⟩, q3⟩ := hq
        refine ⟨q3, .inr ⟨hx, bleT q2, q1, ?_⟩⟩
        split at h1
        · rename_i l hl
          subst h1
          rw [hl]; exact ⟨rfl, trivial⟩
        · rename_i e k d fl xs hl
          obtain ⟨h1, rfl⟩ := h1
          rw [hl]; exact ⟨rfl, h1⟩
    · exact wkH_get h2 b x' h

/-- The labels behind. -/
def reE (ε : Nat → Option BE) (st' : SSt) : Nat → Option BE := fun b => match sget st'.H b with
  | some x' => (match ε b with
    | some e => some ⟨x'.ver, e.act⟩
    | none => if x'.lz = true then some ⟨x'.ver, none⟩ else none)
  | none => if b < st'.nx then ε b else none
theorem lzNew_of {st st' : SSt} {bb ver : Nat} (h : lzNew st st' bb ver = true) : ∃ x', sget st.H bb = none ∧ sget st'.H bb = some x' ∧ x'.lz = true ∧ x'.ver = ver ∧ st.nx ≤ bb := by
  unfold lzNew at h
  split at h
  · rename_i x' h1 h2
    simp only [Bool.and_eq_true] at h
    exact ⟨x', h1, h2, h.1.1, beqT h.1.2, bleT h.2⟩
  · cases h
theorem nilFix_rel {st st' : SSt} {ε : Nat → Option BE} {ε' : Nat → Option BE} (hfs : ∀ b, st.nx ≤ b → ε b = none) (he : ε' = reE ε st') {K : Prop} : ∀ {l m : List SV} {vs : List V}, RL ε' l vs → nilK st st' K l m → RL ε' (nilFix st st' l m) vs ∧ K
  | _, _, _, .nil, h => ⟨.nil, h⟩
  | _, [], _, .cons r q, h => by
    obtain ⟨h1, h2⟩ := nilFix_rel (m := []) hfs he q h
    exact ⟨.cons r h1, h2⟩
  | a :: l, b :: m, v :: vs, .cons r q, h => by
    have h' : nil1K st st' a b (nilK st st' K l m) := h
    show RL ε' (nil1 st st' a b :: nilFix st st' l m) (v :: vs) ∧ K
    have plain : nilK st st' K l m → RV ε' (nil1 st st' a b) v → RL ε' (nil1 st st' a b :: nilFix st st' l m) (v :: vs) ∧ K := fun h2 h3 => by
      obtain ⟨g1, g2⟩ := nilFix_rel hfs he q h2
      exact ⟨.cons h3 g1, g2⟩
    cases a with
    | nilSl =>
      cases b with
      | slB bb e k ver n =>
        have h'' : bif lzNew st st' bb ver then e.val = 0 ∧ n.val = 0 ∧ nilK st st' K l m else nilK st st' K l m := h'
        cases hz : lzNew st st' bb ver with
        | false =>
          rw [hz] at h''
          refine plain h'' ?_
          show RV ε' (bif lzNew st st' bb ver then SV.slB bb e k ver n else .nilSl) v
          rw [hz]; exact r
        | true =>
          rw [hz] at h''
          obtain ⟨g1, g2, g3⟩ := h''
          refine plain g3 ?_
          show RV ε' (bif lzNew st st' bb ver then SV.slB bb e k ver n else .nilSl) v
          rw [hz]
          obtain ⟨x', k1, k2, k3, k4, k5⟩ := lzNew_of hz
          cases r
          refine .slB (e := ⟨x'.ver, none⟩) ?_ (by show ver ≤ x'.ver; omega) (fun _ => .inr ⟨rfl, rfl, g2, g1⟩) rfl
          rw [he]; unfold reE; rw [k2]; simp only [hfs bb k5, k3, if_true]
      | _ => exact plain h' r
    | _ => exact plain h' r
theorem reRe {st st' : SSt} {s : St} (hr : RSt ε st s) : Re ε (reE ε st') st.H st'.H := by
  intro b x x' hx hx' e he
  obtain ⟨e0, g1, g2, _⟩ := hr.H.at_ b x hx
  rw [he] at g1; cases g1
  exact ⟨g2, by unfold reE; rw [hx']; simp only [he]⟩
theorem wk_rel {R : Nat} {st st' : SSt} {s : St} (hr : RSt ε st s) (h : wk R st st') : RSt (reE ε st') st' s := by
  have hre : Re ε (reE ε st') st.H st'.H := by
    intro b x x' hx hx' e he
    obtain ⟨e0, g1, g2, _⟩ := hr.H.at_ b x hx
    rw [he] at g1; cases g1
    exact ⟨g2, by unfold reE; rw [hx']; simp only [he]⟩
  obtain ⟨h0, h1, h2⟩ := nilFix_rel hr.fs rfl (reL_rel hre hr.t) h
  refine ⟨sles_rel h1 h0, ⟨fun b x' hx' => ?_, fun b1 b2 x1 x2 e1 e2 c v1 v2 k1 k2 k3 k4 k5 k6 => ?_⟩, fun b hb => ?_, hr.fv⟩
  · obtain ⟨hb, ⟨x, hx, hk, hv, hl, hf, hc⟩ | ⟨q1, q2, q3, q4, q5⟩⟩ := wkH_get h2 b x' hx'
    · obtain ⟨e, g1, g2, g3, g4⟩ := hr.H.at_ b x hx
      rcases g4 with ⟨g5, g6, g7⟩ | ⟨b', v', ab, m1, m2, m3, m4, m5, m6⟩
      · have r0 : RL ε x.cells.list [] := by rw [g7]; exact .nil
        obtain ⟨r1, r2⟩ := wkC_rel hre g3 hc r0
        refine ⟨⟨x'.ver, e.act⟩, (hre b x x' hx hx' e g1).2, rfl, r2, .inl ⟨hl g5, g6, ?_⟩⟩
        have := r1.length
        exact List.length_eq_zero_iff.1 this
      · obtain ⟨r1, r2⟩ := wkC_rel hre g3 hc m6
        exact ⟨⟨x'.ver, e.act⟩, (hre b x x' hx hx' e g1).2, rfl, r2, .inr ⟨b', v', ab, m1, m2, m3, m4.trans hk, fun q => m5 (hf q), r1⟩⟩
    · exact ⟨⟨x'.ver, none⟩, by unfold reE; rw [hx']; simp only [hr.fs b q2, q3, if_true], rfl, q5, .inl ⟨q3, rfl, q4⟩⟩
  · have un : ∀ b x' e c v, sget st'.H b = some x' → reE ε st' b = some e → e.act = some (c, v) → ∃ y e0, sget st.H b = some y ∧ ε b = some e0 ∧ e.act = e0.act := by
      intro b x' e c v hx he ha
      have he' := he
      unfold reE at he
      rw [hx] at he
      simp only at he
      split at he
      · rename_i e0 h0
        cases he
        obtain ⟨_, ⟨y, hy, _⟩ | ⟨q1, q2, _⟩⟩ := wkH_get h2 b x' hx
        · exact ⟨y, e0, hy, h0, rfl⟩
        · rw [hr.fs b q2] at h0; cases h0
      · split at he
        · cases he; cases ha
        · cases he
    obtain ⟨y1, f1, hy1, n1, p1⟩ := un b1 x1 e1 c v1 k1 k3 k5
    obtain ⟨y2, f2, hy2, n2, p2⟩ := un b2 x2 e2 c v2 k2 k4 k6
    exact hr.H.inj b1 b2 y1 y2 f1 f2 c v1 v2 hy1 hy2 n1 n2 (p1 ▸ k5) (p2 ▸ k6)
  · unfold reE
    split
    · rename_i x' hx'
      obtain ⟨hlt, _⟩ := wkH_get h2 b x' hx'
      omega
    · rw [if_neg (by omega)]
theorem oldB_get {R nx : Nat} : ∀ {G : SHeap}, oldB R nx H G = true → ∀ b x', sget G b = some x' → nx ≤ b ∨ ∃ x0, sget H b = some x0 ∧ x0.ver < R
  | [], _, b, x', h => by cases h
  | (c, y) :: r, hk, b, x', h => by
    obtain ⟨h1, h2⟩ := andT (show ((Nat.ble nx c || match sget H c with | some x0 => Nat.blt x0.ver R | none => false) && oldB R nx H r) = true from hk)
    rw [sget_cons] at h
    split at h
    · rename_i q
      subst q
      rw [Bool.or_eq_true] at h1
      rcases h1 with h1 | h1
      · exact .inl (bleT h1)
      · split at h1
        · rename_i x0 hx0; exact .inr ⟨x0, hx0, by simpa [Nat.blt_eq] using h1⟩
        · cases h1
    · exact oldB_get h2 b x' h
theorem wk_ex {ε0 : Nat → Option BE} {R : Nat} {st0 st st' : SSt} {s0 s : St} (h0 : RSt ε0 st0 s0) (hx : EX ε0 ε) (hr : RSt ε st s) (h : wk R st st') (ho : exB R st0 st' = true) : EX ε0 (reE ε st') := by
  intro b e0 he0
  obtain ⟨o1, o2⟩ := andT (show (Nat.ble st0.nx st'.nx && oldB R st0.nx st0.H st'.H) = true from ho)
  have hb : b < st0.nx := by
    refine Nat.lt_of_not_le fun q => ?_
    rw [h0.fs b q] at he0; cases he0
  obtain ⟨e, he, hq⟩ := hx b e0 he0
  cases hg : sget st'.H b with
  | none =>
    refine ⟨e, ?_, hq⟩
    unfold reE
    rw [hg]
    simp only
    rw [if_pos (Nat.lt_of_lt_of_le hb (bleT o1))]
    exact he
  | some x' =>
    have hW : wkH R st.nx st'.nx st.H st'.H st'.H := (nilFix_rel hr.fs rfl (reL_rel (reRe hr) hr.t) h).2.2
    obtain ⟨x, hx1, hv⟩ : ∃ x, sget st.H b = some x ∧ (x'.ver = x.ver ∨ x'.ver = R) := by
      obtain ⟨_, ⟨x, hx1, _, hv, _⟩ | ⟨_, q2, _⟩⟩ := wkH_get hW b x' hg
      · exact ⟨x, hx1, hv⟩
      · rw [hr.fs b q2] at he; cases he
    obtain ⟨f, g1, g2, _⟩ := hr.H.at_ b x hx1
    rw [he] at g1; cases g1
    refine ⟨⟨x'.ver, e.act⟩, by unfold reE; rw [hg]; simp only [he], ?_⟩
    rcases hv with hv | hv
    · have : (⟨x'.ver, e.act⟩ : BE) = e := by rw [hv, ← g2]
      rw [this]; exact hq
    · right
      rcases oldB_get o2 b x' hg with q | ⟨x0, q1, q2⟩
      · omega
      · obtain ⟨f0, k1, k2, _⟩ := h0.H.at_ b x0 q1
        rw [he0] at k1; cases k1
        show e0.sv < x'.ver
        omega
end

/-! The rule. -/
/-- A loop that is known: states from round to round, and behind. -/
structure LInv where
  ι : Type
  G : ι → Prop
  μ : ι → Nat
  I : ι → SSt
  Ω : Type
  e : Nat
  PE : ι → Ω → Prop
  OE : Ω → SSt
  ret : Bool
  Ρ : Type
  PR : ι → Ρ → Prop
  OR : Ρ → SSt
def LInv.round (L : LInv) (R : Nat) (i : L.ι) : SKont := fun ex st => match ex with
  | .normal => ∃ j, L.G j ∧ L.μ j < L.μ i ∧ (∀ o, L.PE j o → L.PE i o) ∧ (bif L.ret then ∀ o, L.PR j o → L.PR i o else True) ∧ wk R st (L.I j)
  | .exit x => bif Nat.beq x L.e then ∃ o, L.PE i o ∧ wk R st (L.OE o) else Stuck 273
  | .ret => bif L.ret then ∃ o, L.PR i o ∧ wk R st (L.OR o) else Stuck 274
def LInv.C (L : LInv) (R : Nat) : SSt → SKont → Prop := fun st K =>
  ∃ i, L.G i ∧ wk R st (L.I i) ∧ (∀ j, exS R st (L.I j) True) ∧ (∀ o, L.PE i o → exS R st (L.OE o) (K (.exit L.e) (L.OE o))) ∧ (bif L.ret then ∀ o, L.PR i o → exS R st (L.OR o) (K .ret (L.OR o)) else True)
section
variable {P : Program} {cf : Cfg} {sx : SX}
theorem exS_of {R : Nat} {a b : SSt} {K : Prop} (h : exS R a b K) : exB R a b = true ∧ K := bif_of h
theorem round_of {L : LInv} {R : Nat} {body : Code} (hb : ∀ i, L.G i → SWP P cf body (L.I i) (L.round R i)) {st0 : SSt} {s0 : St} {ε0 : Nat → Option BE} (h0 : RSt ε0 st0 s0) (hex : ∀ j, exB R st0 (L.I j) = true) :
    ∀ (n : Nat) (i : L.ι), L.μ i < n → L.G i → ∀ ε s, EX ε0 ε → RSt ε (L.I i) s → (∀ o, L.PE i o → exB R st0 (L.OE o) = true) → (L.ret = true → ∀ o, L.PR i o → exB R st0 (L.OR o) = true) →
      ∃ m ex s', (∃ N, ∀ k, N ≤ k → ∀ j, m ≤ j → iterN (exec P cf k body) j s = some (ex, s')) ∧ ∃ ε' ss', EX ε0 ε' ∧ RSt ε' ss' s' ∧ ((∃ o, L.PE i o ∧ ex = .exit L.e ∧ ss' = L.OE o) ∨ (L.ret = true ∧ ∃ o, L.PR i o ∧ ex = .ret ∧ ss' = L.OR o))
  | 0, i, hn, _, _, _, _, _, _, _ => by omega
  | n + 1, i, hn, hg, ε, s, hx, hr, hE, hR => by
    obtain ⟨ex, s1, ⟨N1, hN1⟩, ε1, ss1, h1, h2, h3⟩ := hb i hg ε s hr
    have hx1 := hx.trans h1
    cases ex with
    | normal =>
      obtain ⟨j, g1, g2, g3, g4, g5⟩ := h3
      obtain ⟨m, ex, s', ⟨N2, hN2⟩, ε', ss', k1, k2, k3⟩ := round_of hb h0 hex n j (by omega) g1 (reE ε1 (L.I j)) s1 (wk_ex h0 hx1 h2 g5 (hex j)) (wk_rel h2 g5) (fun o ho => hE o (g3 o ho))
        (fun q o ho => hR q o (by rw [q] at g4; exact g4 o ho))
      refine ⟨m + 1, ex, s', ⟨max N1 N2, fun k hk j hj => ?_⟩, ε', ss', k1, k2, k3.imp (fun ⟨o, p1, p2⟩ => ⟨o, g3 o p1, p2⟩) fun ⟨q, o, p1, p2⟩ => ⟨q, o, by rw [q] at g4; exact g4 o p1, p2⟩⟩
      obtain ⟨i, rfl⟩ : ∃ i, j = i + 1 := ⟨j - 1, by omega⟩
      show onward (exec P cf k body s) (iterN (exec P cf k body) i) = _
      rw [hN1 k (by omega)]
      exact hN2 k (by omega) i (by omega)
    | exit x =>
      obtain ⟨q, o, p1, p2⟩ := bif_of (show bif Nat.beq x L.e then ∃ o, L.PE i o ∧ wk R ss1 (L.OE o) else Stuck 273 from h3)
      refine ⟨1, .exit x, s1, ⟨N1, fun k hk j hj => ?_⟩, reE ε1 (L.OE o), L.OE o, wk_ex h0 hx1 h2 p2 (hE o p1), wk_rel h2 p2, .inl ⟨o, p1, by rw [beqT q], rfl⟩⟩
      obtain ⟨i, rfl⟩ : ∃ i, j = i + 1 := ⟨j - 1, by omega⟩
      show onward (exec P cf k body s) (iterN (exec P cf k body) i) = _
      rw [hN1 k hk]
      rfl
    | ret =>
      obtain ⟨q, o, p1, p2⟩ := bif_of (show bif L.ret then ∃ o, L.PR i o ∧ wk R ss1 (L.OR o) else Stuck 274 from h3)
      refine ⟨1, .ret, s1, ⟨N1, fun k hk j hj => ?_⟩, reE ε1 (L.OR o), L.OR o, wk_ex h0 hx1 h2 p2 (hR q o p1), wk_rel h2 p2, .inr ⟨q, o, p1, rfl, rfl⟩⟩
      obtain ⟨i, rfl⟩ : ∃ i, j = i + 1 := ⟨j - 1, by omega⟩
      show onward (exec P cf k body s) (iterN (exec P cf k body) i) = _
      rw [hN1 k hk]
      rfl
def LWP (P : Program) (cf : Cfg) (body : Code) (st : SSt) (K : SKont) : Prop :=
  ∀ ε s, RSt ε st s → ∃ m ex s', (∃ N, ∀ k, N ≤ k → ∀ j, m ≤ j → iterN (exec P cf k body) j s = some (ex, s')) ∧ ∃ ε' ss', EX ε ε' ∧ RSt ε' ss' s' ∧ K ex ss'
theorem lwp_swp {body : Code} {st : SSt} {K : SKont} (h : LWP P cf body st K) : SWP P cf (.loop body) st K := by
  intro ε s hr
  obtain ⟨m, ex, s', ⟨N, hN⟩, ε', ss', k1, k2, k3⟩ := h ε s hr
  refine ⟨ex, s', runs_succ ⟨max N m, fun k hk => ?_⟩, ε', ss', k1, k2, k3⟩
  simp only [execStep]
  exact hN k (by omega) k (by omega)
/-- A loop by what is kept from round to round. -/
theorem inv_of {L : LInv} {R : Nat} {body : Code} (hb : ∀ i, L.G i → SWP P cf body (L.I i) (L.round R i)) (st : SSt) (K : SKont) (h : L.C R st K) : LWP P cf body st K := by
  intro ε s hr
  obtain ⟨i, h1, h2, h3, h4, h5⟩ := h
  have hex := fun j => (exS_of (h3 j)).1
  obtain ⟨m, ex, s', hN, ε', ss', k1, k2, k3⟩ := round_of hb hr hex (L.μ i + 1) i (by omega) h1 (reE ε (L.I i)) s (wk_ex hr (EX.refl ε) hr h2 (hex i)) (wk_rel hr h2) (fun o ho => (exS_of (h4 o ho)).1)
    (fun q o ho => (exS_of ((by rw [q] at h5; exact h5 : ∀ o, L.PR i o → exS R st (L.OR o) (K .ret (L.OR o))) o ho)).1)
  refine ⟨m, ex, s', hN, ε', ss', k1, k2, ?_⟩
  rcases k3 with ⟨o, p1, rfl, rfl⟩ | ⟨q, o, p1, rfl, rfl⟩
  · exact (exS_of (h4 o p1)).2
  · rw [q] at h5
    exact (exS_of (h5 o p1)).2
def LpOK (P : Program) (cf : Cfg) (f k : Nat) (C : SSt → SKont → Prop) : Prop := ∀ st K, C st K → LWP P cf (loopBody P f k) st K
theorem inv_vc {L : LInv} {R f k m : Nat} (hsx : SXOK P cf sx) (h : ∀ i, L.G i → sexec sx P cf m (loopBody P f k) (L.I i) (L.round R i)) : LpOK P cf f k (L.C R) :=
  inv_of fun i hi => sexec_of hsx m _ _ _ (h i hi)
/-- One round first. -/
def peel (sx : SX) (P : Program) (cf : Cfg) (m f k : Nat) (C : SSt → SKont → Prop) : SSt → SKont → Prop := fun st K =>
  sexec sx P cf m (loopBody P f k) st fun ex st' => match ex with
    | .normal => C st' K
    | ex => K ex st'
theorem peel_ok {m f k : Nat} (hsx : SXOK P cf sx) {C : SSt → SKont → Prop} (h : LpOK P cf f k C) : LpOK P cf f k (peel sx P cf m f k C) := by
  intro st K hp ε s hr
  obtain ⟨ex, s1, ⟨N1, hN1⟩, ε1, ss1, h1, h2, h3⟩ := sexec_of hsx m _ _ _ hp ε s hr
  have stop : ex ≠ .normal → K ex ss1 → ∃ m ex s', (∃ N, ∀ n, N ≤ n → ∀ j, m ≤ j → iterN (exec P cf n (loopBody P f k)) j s = some (ex, s')) ∧ ∃ ε' ss', EX ε ε' ∧ RSt ε' ss' s' ∧ K ex ss' := by
    intro hne hK
    refine ⟨1, ex, s1, ⟨N1, fun n hn j hj => ?_⟩, ε1, ss1, h1, h2, hK⟩
    obtain ⟨i, rfl⟩ : ∃ i, j = i + 1 := ⟨j - 1, by omega⟩
    show onward (exec P cf n _ s) (iterN (exec P cf n _) i) = _
    rw [hN1 n hn]
    cases ex <;> first | rfl | exact absurd rfl hne
  cases ex with
  | normal =>
    obtain ⟨m, ex, s2, ⟨N2, hN2⟩, ε2, ss2, k1, k2, k3⟩ := h ss1 K h3 ε1 s1 h2
    refine ⟨m + 1, ex, s2, ⟨max N1 N2, fun n hn j hj => ?_⟩, ε2, ss2, h1.trans k1, k2, k3⟩
    obtain ⟨i, rfl⟩ : ∃ i, j = i + 1 := ⟨j - 1, by omega⟩
    show onward (exec P cf n _ s) (iterN (exec P cf n _) i) = _
    rw [hN1 n (by omega)]
    exact hN2 n (by omega) i (by omega)
  | exit i => exact stop (fun q => by cases q) h3
  | ret => exact stop (fun q => by cases q) h3
/-- Functions and loops that are known. -/
theorem sxok_lp {row : TypeId → Option SRow} {l : List (FuncId × SCall)} {lp : List (Nat × SLoop)} (h : ∀ p ∈ l, CtOK P cf p.1 p.2) (k : ∀ p ∈ lp, LpOK P cf p.2.f p.2.k p.2.C) : SXOK P cf ⟨row, ctOf l, lpOf lp⟩ :=
  sxok_of h fun p hp ss K hC => lwp_swp (k p hp ss K hC)
end
end
end Go.Proofs.Ytifgifhbefhkmaa.VM
