/- What state's Source, Writes, Reads, Tell and Agreed tell; and the document's. -/
import Derived.Test.YtcnlgfoomeklbaaSlStateLib
namespace Go.Proofs.Ytcnlgfoomeklbaa.SlStateLib
open Go.RowKit Go.Proofs.Ytcnlgfoomeklbaa.PSl Go.Proofs.YtcnlgfoomeklbaaW.PrintWords Go.Proofs.YtcnlgfoomeklbaaW.PrintLast Go.Proofs.Ytcnlgfoomeklbaa.Kit

def srcN (ph f : Int) : Int := if ph = 3 then -1 else f
def takesB (s l ph f : Int) (a : Bool) : Bool := ph == 3 || (s == l || a) && (ph == 2 || f == s)
def writesR (v o : Bool) (t : Bool) : Bool × Int := if v = true then if o = true then (t, 0) else (false, 2) else (false, 110)
def readsN (s l : Int) (q a t : Bool) : Int := if t = true then 1 else if s = l ∧ q = true ∧ a = false then 2 else 0
def readsR (v o : Bool) (t : Int) : Int × Int := if v = true then if o = true then (t, 0) else (0, 2) else (0, 110)
theorem source_ok (k : Nat) (p b e l ph f : Int) (q a : Bool) : state_Source.f (k + 3) p b e l ph f q a = some (if V p b e l ph f q = true then (srcN ph f, 0) else (0, 110)) := by
  rw [state_Source.f, check_ok, Option.bind_some]
  cases hv : V p b e l ph f q
  · simp
  · simp only [if_true, state_source.f, srcN]
    by_cases h : ph = 3 <;> simp [h]
theorem rsource_ok (k : Nat) (p b e l ph f : Int) (q a : Bool) : catamaranref19_Source.f (k + 3) p b e l ph f q a = some (if V p b e l ph f q = true then (srcN ph f, 0) else (0, 110)) := by
  rw [catamaranref19_Source.f, may_ok (k + 2), Option.bind_some]
  cases hv : V p b e l ph f q
  · simp
  · obtain ⟨_, _, _, _, hl, hf, hp, -⟩ := V_tells hv
    simp only [if_true, catamaranref19_IsSource.f, srcN]
    rcases hp with rfl | ⟨rfl | rfl, rfl⟩
    · rcases hf with rfl | rfl <;> simp
    · rcases hl with rfl | rfl <;> simp
    · simp
theorem writes0 (s p b e l ph f : Int) (q a : Bool) (hv : V p b e l ph f q = true) (hs : S s = true) : state_writes.f s p b e l ph f q a = some (takesB s l ph f a) := by
  obtain ⟨_, _, _, _, hl, hf, hp, -⟩ := V_tells hv
  simp only [state_writes.f, state_target.f, takesB]
  rcases S_tells hs with rfl | rfl <;> rcases hp with rfl | ⟨rfl | rfl, rfl⟩ <;> rcases hf with rfl | rfl <;> (try rcases hl with rfl | rfl) <;> cases a <;> simp
theorem takes0 (s p b e l ph f : Int) (q a : Bool) (hv : V p b e l ph f q = true) (hs : S s = true) : catamaranref19_Takes.f s p b e l ph f q a = some (takesB s l ph f a) := by
  obtain ⟨_, _, _, _, hl, hf, hp, -⟩ := V_tells hv
  simp only [catamaranref19_Takes.f, takesB]
  rcases S_tells hs with rfl | rfl <;> rcases hp with rfl | ⟨rfl | rfl, rfl⟩ <;> rcases hf with rfl | rfl <;> (try rcases hl with rfl | rfl) <;> cases a <;> simp
theorem writes_ok (k : Nat) (s p b e l ph f : Int) (q a : Bool) : state_Writes.f (k + 3) s p b e l ph f q a = some (writesR (V p b e l ph f q) (S s) (takesB s l ph f a)) := by
  rw [state_Writes.f, asked0, Option.bind_some]
  cases hv : V p b e l ph f q
  · simp [writesR]
  cases hs : S s
  · simp [writesR]
  rw [writes0 _ _ _ _ _ _ _ _ _ hv hs]; simp [writesR]
theorem rwrites_ok (k : Nat) (s p b e l ph f : Int) (q a : Bool) : catamaranref19_Writes.f (k + 3) s p b e l ph f q a = some (writesR (V p b e l ph f q) (S s) (takesB s l ph f a)) := by
  rw [catamaranref19_Writes.f, rasked (k + 2), Option.bind_some]
  cases hv : V p b e l ph f q
  · simp [writesR]
  cases hs : S s
  · simp [writesR]
  rw [takes0 _ _ _ _ _ _ _ _ _ hv hs]; simp [writesR]
theorem reads_ok (k : Nat) (s p b e l ph f : Int) (q a : Bool) : state_Reads.f (k + 3) s p b e l ph f q a = some (readsR (V p b e l ph f q) (S s) (readsN s l q a (takesB s l ph f a))) := by
  rw [state_Reads.f, asked0, Option.bind_some]
  cases hv : V p b e l ph f q
  · simp [readsR]
  cases hs : S s
  · simp [readsR]
  rw [writes0 _ _ _ _ _ _ _ _ _ hv hs]
  simp only [Option.bind_some, if_true, readsR, readsN]
  cases takesB s l ph f a <;> by_cases h : s = l <;> cases q <;> cases a <;> simp [h]
theorem rreads_ok (k : Nat) (s p b e l ph f : Int) (q a : Bool) : catamaranref19_Reads.f (k + 3) s p b e l ph f q a = some (readsR (V p b e l ph f q) (S s) (readsN s l q a (takesB s l ph f a))) := by
  rw [catamaranref19_Reads.f, rasked (k + 2), Option.bind_some]
  cases hv : V p b e l ph f q
  · simp [readsR]
  cases hs : S s
  · simp [readsR]
  rw [catamaranref19_Gives.f, takes0 _ _ _ _ _ _ _ _ _ hv hs]
  simp only [Option.bind_some, if_true, readsR, readsN]
  cases takesB s l ph f a <;> by_cases h : s = l <;> cases q <;> cases a <;> simp [h]
theorem tell_both (k : Nat) (s p b e l ph f : Int) (q a : Bool) : state_Tell.f (k + 5) s p b e l ph f q a = catamaranref19_Tell.f (k + 5) s p b e l ph f q a ∧ (state_Tell.f (k + 5) s p b e l ph f q a).isSome = true := by
  rw [state_Tell.f, catamaranref19_Tell.f, asked0 (k + 2), rasked (k + 4), Option.bind_some, Option.bind_some]
  cases hv : V p b e l ph f q
  · simp
  cases hs : S s
  · simp
  obtain ⟨_, _, _, _, hl, hf, hp, -⟩ := V_tells hv
  simp only [if_true, state_target.f, catamaranref19_Told.f, state_Tell.j0, state_Tell.j1, state_Tell.j2, state_Tell.j3, catamaranref19_Told.j0, catamaranref19_Told.j1]
  rcases S_tells hs with rfl | rfl <;> rcases hp with rfl | ⟨rfl | rfl, rfl⟩ <;> rcases hf with rfl | rfl <;> (try rcases hl with rfl | rfl) <;> cases a <;> cases q <;> simp
theorem agreed (p b e l ph f : Int) (q a : Bool) (p' b' e' l' ph' f' : Int) (q' a' : Bool) : state_Agreed.f p b e l ph f q a p' b' e' l' ph' f' q' a' = catamaranref19_Agreed.f p b e l ph f q a p' b' e' l' ph' f' q' a' ∧ (state_Agreed.f p b e l ph f q a p' b' e' l' ph' f' q' a').isSome = true := by
  rw [state_Agreed.f, catamaranref19_Agreed.f]
  refine ⟨?_, rfl⟩
  by_cases h0 : p = p' <;> by_cases h1 : b = b' <;> by_cases h2 : e = e' <;> by_cases h3 : l = l' <;> by_cases h4 : ph = ph' <;> by_cases h5 : f = f' <;> simp [h0, h1, h2, h3, h4, h5]
theorem tells : catamaranlaw19_StateTells.Pure := by
  intro s p b e l ph f q a p' b' e' l' ph' f' q' a' _ _ _ _ _ _ _ _ _ _ _ _ _
  refine ⟨5, ?_⟩
  rw [catamaranlaw19_StateTells.f, source_ok 2, Option.bind_some, rsource_ok 2, Option.bind_some, writes_ok 2, Option.bind_some, rwrites_ok 2, Option.bind_some, reads_ok 2, Option.bind_some, rreads_ok 2, Option.bind_some]
  obtain ⟨e1, h1⟩ := tell_both 0 s p b e l ph f q a
  obtain ⟨e2, h2⟩ := agreed p b e l ph f q a p' b' e' l' ph' f' q' a'
  rw [← e1, ← e2]
  obtain ⟨x, hx⟩ := Option.isSome_iff_exists.1 h1
  obtain ⟨y, hy⟩ := Option.isSome_iff_exists.1 h2
  rw [hx, hy]
  simp
end Go.Proofs.Ytcnlgfoomeklbaa.SlStateLib
