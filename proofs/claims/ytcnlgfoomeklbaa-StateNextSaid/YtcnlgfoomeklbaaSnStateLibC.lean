/- What Source, Writes and Reads tell. -/
import Derived.Test.YtcnlgfoomeklbaaSnStateLib
namespace Go.Proofs.Ytcnlgfoomeklbaa.SnStateLib
open Go.RowKit Go.Proofs.Ytcnlgfoomeklbaa.PSn Go.Proofs.YtcnlgfoomeklbaaW.PrintWords Go.Proofs.YtcnlgfoomeklbaaW.PrintLast Go.Proofs.Ytcnlgfoomeklbaa.Kit

def srcN (ph f : Int) : Int := if ph = 3 then -1 else f
def takesB (s l ph f : Int) (a : Bool) : Bool := ph == 3 || (s == l || a) && (ph == 2 || f == s)
def writesR (v o : Bool) (t : Bool) : Bool × Int := if v = true then if o = true then (t, 0) else (false, 2) else (false, 110)
def readsN (s l : Int) (q a t : Bool) : Int := if t = true then 1 else if s = l ∧ q = true ∧ a = false then 2 else 0
def readsR (v o : Bool) (t : Int) : Int × Int := if v = true then if o = true then (t, 0) else (0, 2) else (0, 110)
theorem source_ok (k : Nat) (p b e l ph f : Int) (q a : Bool) : state_Source.f (k + 3) p b e l ph f q a = some (if V p b e l ph f q = true then (srcN ph f, 0) else (0, 110)) := by
  rw [state_Source.f, check_ok, Option.bind_some]
  cases hv : V p b e l ph f q
  · simp
  · simp only [if_true, state_source.f, srcN]
    by_cases h : ph = 3 <;> simp [h]
theorem writes0 (s p b e l ph f : Int) (q a : Bool) (hv : V p b e l ph f q = true) (hs : S s = true) : state_writes.f s p b e l ph f q a = some (takesB s l ph f a) := by
  obtain ⟨_, _, _, _, hl, hf, hp, -⟩ := V_tells hv
  simp only [state_writes.f, state_target.f, takesB]
  rcases S_tells hs with rfl | rfl <;> rcases hp with rfl | ⟨rfl | rfl, rfl⟩ <;> rcases hf with rfl | rfl <;> (try rcases hl with rfl | rfl) <;> cases a <;> simp
theorem writes_ok (k : Nat) (s p b e l ph f : Int) (q a : Bool) : state_Writes.f (k + 3) s p b e l ph f q a = some (writesR (V p b e l ph f q) (S s) (takesB s l ph f a)) := by
  rw [state_Writes.f, asked0, Option.bind_some]
  cases hv : V p b e l ph f q
  · simp [writesR]
  cases hs : S s
  · simp [writesR]
  rw [writes0 _ _ _ _ _ _ _ _ _ hv hs]; simp [writesR]
theorem reads_ok (k : Nat) (s p b e l ph f : Int) (q a : Bool) : state_Reads.f (k + 3) s p b e l ph f q a = some (readsR (V p b e l ph f q) (S s) (readsN s l q a (takesB s l ph f a))) := by
  rw [state_Reads.f, asked0, Option.bind_some]
  cases hv : V p b e l ph f q
  · simp [readsR]
  cases hs : S s
  · simp [readsR]
  rw [writes0 _ _ _ _ _ _ _ _ _ hv hs]
  simp only [Option.bind_some, if_true, readsR, readsN]
  cases takesB s l ph f a <;> by_cases h : s = l <;> cases q <;> cases a <;> simp [h]
end Go.Proofs.Ytcnlgfoomeklbaa.SnStateLib
