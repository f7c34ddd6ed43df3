/- What Order, Join and Next tell. -/
import Derived.Test.YtcnlgfoomeklbaaSnStateLib
namespace Go.Proofs.Ytcnlgfoomeklbaa.SnStateLib
open Go.RowKit Go.Proofs.Ytcnlgfoomeklbaa.PSn Go.Proofs.YtcnlgfoomeklbaaW.PrintWords Go.Proofs.YtcnlgfoomeklbaaW.PrintLast Go.Proofs.Ytcnlgfoomeklbaa.Kit

/-- May an operation be ordered? -/
def ordB (s l ph f : Int) (a : Bool) (op : Int) : Bool :=
  if op = 2 then s == l && ph == 2 && !a else if op = 3 then s == l && (ph == 3 || a) && !(ph == 1 && f != s)
  else if op = 4 ∨ op = 5 then s == l && (ph == 3 && !a || a && (ph == 1 && f != s)) else if op = 6 then s != l && (ph == 3 || a)
  else if op = 7 then s != l && ph == 2 && !a else ph == 1 && f == s && !a
def joinB (s l ph f : Int) (a : Bool) (op : Int) : Bool :=
  if op = 2 then s != l && ph == 2 && !a else if op = 3 then s != l
  else if op = 4 ∨ op = 5 then s != l && !a && (ph == 3 || ph == 1 && f == s) else if op = 6 then s == l
  else if op = 7 then s == l && ph == 2 && !a else (ph == 1 && f != s) && !a
def err (v so : Bool) (x : Int) : Int := if v = true then if so = true then x else 2 else 110
theorem phases {ph f l : Int} (h : ph = 1 ∨ (ph = 2 ∨ ph = 3) ∧ f = l) : ph = 1 ∨ ph = 2 ∨ ph = 3 := by omega
theorem order_ok (k : Nat) (s p b e l ph f : Int) (q a : Bool) (op : Int) : state_Order.f (k + 3) s p b e l ph f q a op = some (err (V p b e l ph f q) (S s && O op) (if ordB s l ph f a op = true then 0 else 190)) := by
  rw [state_Order.f, asked1, Option.bind_some]
  cases hv : V p b e l ph f q
  · simp [err]
  cases hs : S s
  · simp [err]
  cases ho : O op
  · simp [err]
  have h := phases (V_tells hv).2.2.2.2.2.2.1
  simp only [if_true, Bool.true_and, and_self, Option.bind_some, err, state_target.f, state_may.f, state_Order.j0, ordB]
  clear hv hs
  rcases O_tells ho with rfl | rfl | rfl | rfl | rfl | rfl | rfl <;> rcases h with rfl | rfl | rfl <;> by_cases hs : s = l <;> by_cases hf : f = s <;> cases a <;> simp [hs, hf] <;> simp_all
theorem join_ok (k : Nat) (s p b e l ph f : Int) (q a : Bool) (op : Int) : state_Join.f (k + 3) s p b e l ph f q a op = some (err (V p b e l ph f q) (S s && O op) (if joinB s l ph f a op = true then 0 else 190)) := by
  rw [state_Join.f, asked1, Option.bind_some]
  cases hv : V p b e l ph f q
  · simp [err]
  cases hs : S s
  · simp [err]
  cases ho : O op
  · simp [err]
  have h := phases (V_tells hv).2.2.2.2.2.2.1
  simp only [if_true, Bool.true_and, and_self, Option.bind_some, err, state_target.f, state_may.f, state_Join.j0, joinB]
  clear hv hs
  rcases O_tells ho with rfl | rfl | rfl | rfl | rfl | rfl | rfl <;> rcases h with rfl | rfl | rfl <;> by_cases hs : s = l <;> by_cases hf : f = s <;> cases a <;> simp [hs, hf] <;> simp_all
/-- What a record turns to: leader, phase, from, quick. -/
def leadN (l op : Int) : Int := if op = 6 ∨ op = 7 then 1 - l else l
def phN (op : Int) : Int := if op = 2 then 3 else if op = 7 ∨ op = 8 then 2 else 1
def fromN (l op : Int) : Int := if op = 4 ∨ op = 5 then 1 - l else leadN l op
def quickN (op : Int) : Bool := op == 5
abbrev R9 := Int × Int × Int × Int × Int × Int × Bool × Bool × Int
def nextR (v o : Bool) (p b e l op : Int) : R9 :=
  if v = true then if o = true then if e = 4294967295 then (0, 0, 0, 0, 0, 0, false, false, 9) else (p, b, e + 1, leadN l op, phN op, fromN l op, quickN op, false, 0)
    else (0, 0, 0, 0, 0, 0, false, false, 2) else (0, 0, 0, 0, 0, 0, false, false, 110)
theorem S0 : S 0 = true := rfl
theorem next_ok (k : Nat) (p b e l ph f : Int) (q a : Bool) (op : Int) (he : e < 4294967296) : state_Next.f (k + 4) p b e l ph f q a op = some (nextR (V p b e l ph f q) (O op) p b e l op) := by
  rw [state_Next.f, asked1 (k + 1), Option.bind_some, S0]
  cases hv : V p b e l ph f q
  · simp [nextR]
  cases ho : O op
  · simp [nextR]
  obtain ⟨_, _, _, h0, hl, -⟩ := V_tells hv
  by_cases h1 : e = 4294967295
  · subst h1; simp [nextR]
  have h2 : (e + 1) % 4294967296 = e + 1 := by omega
  have h3 : ¬ e + 1 = 0 := by omega
  have w1 : wrap64 1 = 1 := w64 (by omega) (by omega)
  have w2 : wrap64 0 = 0 := w64 (by omega) (by omega)
  rcases O_tells ho with rfl | rfl | rfl | rfl | rfl | rfl | rfl <;> rcases hl with rfl | rfl <;> simp [nextR, h1, h2, h3, state_Next.j0, state_Next.j1, state_Next.j2, leadN, phN, fromN, quickN, w1, w2]
theorem wfu32 {a : Int} (h : (Lit.int .u32 a).wf = true) : 0 ≤ a ∧ a < 4294967296 := by
  simp [Lit.wf, IntKind.min, IntKind.max, IntKind.bits, IntKind.signed] at h
  omega
end Go.Proofs.Ytcnlgfoomeklbaa.SnStateLib
