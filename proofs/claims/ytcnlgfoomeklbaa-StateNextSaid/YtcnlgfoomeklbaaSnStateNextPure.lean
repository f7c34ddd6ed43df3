/- What StateNext asks. -/
import Derived.Test.YtcnlgfoomeklbaaSnStateLibB
import Derived.Test.YtcnlgfoomeklbaaSnStateLibC
namespace Go.Proofs.Ytcnlgfoomeklbaa.SnStateLib
open Go.RowKit Go.Proofs.Ytcnlgfoomeklbaa.PSn Go.Proofs.YtcnlgfoomeklbaaW.PrintWords Go.Proofs.YtcnlgfoomeklbaaW.PrintLast Go.Proofs.Ytcnlgfoomeklbaa.Kit
theorem alive_ok : catamaranlaw19_alive.f 10 = some true := by decide +kernel
theorem not_both {s p b e l ph f op : Int} {q a : Bool} (hv : V p b e l ph f q = true) (h1 : ordB s l ph f a op = true) (h2 : joinB s l ph f a op = true) : False := by
  have h := phases (V_tells hv).2.2.2.2.2.2.1
  unfold ordB at h1
  unfold joinB at h2
  by_cases hs : s = l <;> by_cases hf : f = s <;> simp [hs] at h1 h2 <;> repeat (split at h1 <;> simp_all)
theorem j1_ok (k : Nat) {s p b e l ph f op : Int} {q a : Bool} (hv : V p b e l ph f q = true) (p' b' e' l' ph' f' : Int) (q' a' : Bool) (h8 : op = 8 → l' = l ∧ ph' = 2) (h7 : op = 7 ∨ op = 6 → l' ≠ l) :
    catamaranlaw19_StateNext.j1 (k + 5) s op true false p b e l ph f q a p' b' e' l' ph' f' q' a' = some true := by
  have hz : (if op = 8 then (if l' = l then (if ph' = 2 then (if op = 7 then some (l' != l) else (if op = 6 then some (l' != l) else some true)) else some false) else some false) else (if op = 7 then some (l' != l) else (if op = 6 then some (l' != l) else some true))) = some true := by
    by_cases x8 : op = 8
    · simp [x8, h8 x8]
    · by_cases x7 : op = 7
      · simp [x7, h7 (.inl x7)]
      · by_cases x6 : op = 6
        · simp [x6, h7 (.inr x6)]
        · simp [x8, x7, x6]
  rw [catamaranlaw19_StateNext.j1, if_neg (by decide), order_ok (k + 1), Option.bind_some, join_ok (k + 1), Option.bind_some, if_pos rfl, hz, hv]
  unfold err
  cases hso : (S s && O op)
  · simp
  · cases h1 : ordB s l ph f a op
    · simp
    · cases h2 : joinB s l ph f a op
      · simp
      · exact (not_both hv h1 h2).elim
theorem next : catamaranlaw19_StateNext.Pure := by
  intro p b e l ph f q a s op _ _ he _ _ _ _ _
  have he := wfu32 he
  refine ⟨10, ?_⟩
  rw [catamaranlaw19_StateNext.f, alive_ok, Option.bind_some, next_ok 6 _ _ _ _ _ _ _ _ _ he.2, Option.bind_some]
  cases hv : V p b e l ph f q
  · simp [nextR, catamaranlaw19_StateNext.j0]
  cases ho : O op
  · simp [nextR, catamaranlaw19_StateNext.j0]
  by_cases h1 : e = 4294967295
  · subst h1; simp [nextR, catamaranlaw19_StateNext.j0]
  obtain ⟨v1, v2, v3, v4, hl, -⟩ := V_tells hv
  have h2 : 0 < e + 1 := by omega
  rcases O_tells ho with rfl | rfl | rfl | rfl | rfl | rfl | rfl <;> rcases hl with rfl | rfl <;> simp only [nextR, if_true, if_neg h1, catamaranlaw19_StateNext.j0, source_ok, writes_ok, reads_ok, check_ok, Option.bind_some] <;> simp [leadN, phN, fromN, quickN, V, v1, v2, v3, h2, srcN, writesR, readsR, readsN, takesB, S] <;> exact j1_ok 4 hv _ _ _ _ _ _ _ _ (by omega) (by omega)
end Go.Proofs.Ytcnlgfoomeklbaa.SnStateLib
namespace Go.Proofs.Ytcnlgfoomeklbaa.Pure
open Go.Proofs.Ytcnlgfoomeklbaa.PSn
theorem StateNext : catamaranlaw19_StateNext.Pure := SnStateLib.next
end Go.Proofs.Ytcnlgfoomeklbaa.Pure
