/-
  No cell of these rows narrows 'for every input' (looked for: loops, veiled, ifaces, maps, wideKeys, modest, calm, conditions, laid).
  DERIVED. THE GIVEN ROWS OF THIS SEAT. 11 by the template 'for every input the law returns true; each argument reads behind the call as it read before'; 0 by the template 'total and deterministic' (their statements: YtcnlgfoomeklbaaTotals.lean).
  GIVEN WITH THE SEED: the statements are not yours to turn. If you find one false, say at which input.
  Laid BY PROGRAM, IN A SANDBOX (cutbox-rows.mjs): the forced cells as the released guide's own fill.sh prints them over the translation 8c92313cc244f8b4… (all of the seat's roots in one cut). By AI agents, Wed Nov 11 2026. No macro, syntax, notation, axiom, sorry.
-/
import Derived.Test.YtcnlgfoomeklbaaChecked
import GoSem.Claim
import GoSem.ClaimJoined
import GoSem.ClaimMapViews
import Derived.JoinedTies
import Derived.KernelRfl
namespace Go.Proofs.Ytcnlgfoomeklbaa
/- THE CELL 'sum', in the pinned program and in every row, IS THE sha256 OF THE DUMP (.gsa) THAT YtcnlgfoomeklbaaProg.lean LOADS. Nothing in Lean hashes anything: it is a label: what it is worth is what the hold of that sum in a sandbox is worth. -/
noncomputable def Try.pinned : Pinned := { name := "ytcnlgfoomeklbaa", sum := "8c92313cc244f8b4b7e977f8b33eccf74fa8c245dc19555fa2564349ac2fa437", checked := Try.checked }
namespace Rows
def none {H : Type} : Left H := { results := [], args := [] }

/-- 'catamaranlaw11.RecNotes': WHATEVER THE INPUT: true; the input reads as it did. -/
def recNotesSpec : ChangeSpec := { name := "recNotes", fn := fun _ => fun
  | [d1, d2] => { results := [.lit (.bool true)], args := [d1, d2] }
  | _ => none }
def recNotesRow : OpenClaim := { program := "ytcnlgfoomeklbaa", sum := "8c92313cc244f8b4b7e977f8b33eccf74fa8c245dc19555fa2564349ac2fa437", func := "catamaran/catamaranlaw11.RecNotes", spec := "recNotes", unfollowed := true, recurses := true, apart := false }
def RecNotesSaid : Prop := recNotesRow.holds Try.pinned (OpenSpec.ofChange recNotesSpec)

/-- ITS FALSE NEIGHBOUR: 'it returns false'. Refute it at one input. -/
def recNotesWrong : ChangeSpec := { name := "recNotes", fn := fun _ => fun
  | [d1, d2] => { results := [.lit (.bool false)], args := [d1, d2] }
  | _ => none }
def RecNotesWrongFalsely : Prop := recNotesRow.holds Try.pinned (OpenSpec.ofChange recNotesWrong)

/-- 'catamaranlaw19.StateTurns': WHATEVER THE INPUT: true; the input reads as it did. -/
def stateTurnsSpec : ChangeSpec := { name := "stateTurns", fn := fun _ => fun
  | [d1, d2, d3] => { results := [.lit (.bool true)], args := [d1, d2, d3] }
  | _ => none }
def stateTurnsRow : OpenClaim := { program := "ytcnlgfoomeklbaa", sum := "8c92313cc244f8b4b7e977f8b33eccf74fa8c245dc19555fa2564349ac2fa437", func := "catamaran/catamaranlaw19.StateTurns", spec := "stateTurns", unfollowed := true, recurses := true, apart := false }
def StateTurnsSaid : Prop := stateTurnsRow.holds Try.pinned (OpenSpec.ofChange stateTurnsSpec)

/-- ITS FALSE NEIGHBOUR: 'it returns false'. Refute it at one input. -/
def stateTurnsWrong : ChangeSpec := { name := "stateTurns", fn := fun _ => fun
  | [d1, d2, d3] => { results := [.lit (.bool false)], args := [d1, d2, d3] }
  | _ => none }
def StateTurnsWrongFalsely : Prop := stateTurnsRow.holds Try.pinned (OpenSpec.ofChange stateTurnsWrong)

/-- 'catamaranlaw19.StateTells': WHATEVER THE INPUT: true; the input reads as it did. -/
def stateTellsSpec : ChangeSpec := { name := "stateTells", fn := fun _ => fun
  | [d1, d2, d3] => { results := [.lit (.bool true)], args := [d1, d2, d3] }
  | _ => none }
def stateTellsRow : OpenClaim := { program := "ytcnlgfoomeklbaa", sum := "8c92313cc244f8b4b7e977f8b33eccf74fa8c245dc19555fa2564349ac2fa437", func := "catamaran/catamaranlaw19.StateTells", spec := "stateTells", unfollowed := true, recurses := true, apart := false }
def StateTellsSaid : Prop := stateTellsRow.holds Try.pinned (OpenSpec.ofChange stateTellsSpec)

/-- ITS FALSE NEIGHBOUR: 'it returns false'. Refute it at one input. -/
def stateTellsWrong : ChangeSpec := { name := "stateTells", fn := fun _ => fun
  | [d1, d2, d3] => { results := [.lit (.bool false)], args := [d1, d2, d3] }
  | _ => none }
def StateTellsWrongFalsely : Prop := stateTellsRow.holds Try.pinned (OpenSpec.ofChange stateTellsWrong)

/-- 'catamaranlaw19.StateOne': WHATEVER THE INPUT: true; the input reads as it did. -/
def stateOneSpec : ChangeSpec := { name := "stateOne", fn := fun _ => fun
  | [d1, d2, d3, d4, d5] => { results := [.lit (.bool true)], args := [d1, d2, d3, d4, d5] }
  | _ => none }
def stateOneRow : OpenClaim := { program := "ytcnlgfoomeklbaa", sum := "8c92313cc244f8b4b7e977f8b33eccf74fa8c245dc19555fa2564349ac2fa437", func := "catamaran/catamaranlaw19.StateOne", spec := "stateOne", unfollowed := true, recurses := true, apart := false }
def StateOneSaid : Prop := stateOneRow.holds Try.pinned (OpenSpec.ofChange stateOneSpec)

/-- ITS FALSE NEIGHBOUR: 'it returns false'. Refute it at one input. -/
def stateOneWrong : ChangeSpec := { name := "stateOne", fn := fun _ => fun
  | [d1, d2, d3, d4, d5] => { results := [.lit (.bool false)], args := [d1, d2, d3, d4, d5] }
  | _ => none }
def StateOneWrongFalsely : Prop := stateOneRow.holds Try.pinned (OpenSpec.ofChange stateOneWrong)

/-- 'catamaranlaw19.StateNext': WHATEVER THE INPUT: true; the input reads as it did. -/
def stateNextSpec : ChangeSpec := { name := "stateNext", fn := fun _ => fun
  | [d1, d2, d3] => { results := [.lit (.bool true)], args := [d1, d2, d3] }
  | _ => none }
def stateNextRow : OpenClaim := { program := "ytcnlgfoomeklbaa", sum := "8c92313cc244f8b4b7e977f8b33eccf74fa8c245dc19555fa2564349ac2fa437", func := "catamaran/catamaranlaw19.StateNext", spec := "stateNext", unfollowed := true, recurses := true, apart := false }
def StateNextSaid : Prop := stateNextRow.holds Try.pinned (OpenSpec.ofChange stateNextSpec)

/-- ITS FALSE NEIGHBOUR: 'it returns false'. Refute it at one input. -/
def stateNextWrong : ChangeSpec := { name := "stateNext", fn := fun _ => fun
  | [d1, d2, d3] => { results := [.lit (.bool false)], args := [d1, d2, d3] }
  | _ => none }
def StateNextWrongFalsely : Prop := stateNextRow.holds Try.pinned (OpenSpec.ofChange stateNextWrong)

/-- 'catamaranlaw19.StateNames': WHATEVER THE INPUT: true; the input reads as it did. -/
def stateNamesSpec : ChangeSpec := { name := "stateNames", fn := fun _ => fun
  | [] => { results := [.lit (.bool true)], args := [] }
  | _ => none }
def stateNamesRow : OpenClaim := { program := "ytcnlgfoomeklbaa", sum := "8c92313cc244f8b4b7e977f8b33eccf74fa8c245dc19555fa2564349ac2fa437", func := "catamaran/catamaranlaw19.StateNames", spec := "stateNames", unfollowed := true, recurses := true, apart := false }
def StateNamesSaid : Prop := stateNamesRow.holds Try.pinned (OpenSpec.ofChange stateNamesSpec)

/-- ITS FALSE NEIGHBOUR: 'it returns false'. Refute it at one input. -/
def stateNamesWrong : ChangeSpec := { name := "stateNames", fn := fun _ => fun
  | [] => { results := [.lit (.bool false)], args := [] }
  | _ => none }
def StateNamesWrongFalsely : Prop := stateNamesRow.holds Try.pinned (OpenSpec.ofChange stateNamesWrong)

/-- 'catamaranlaw11.RecNames': WHATEVER THE INPUT: true; the input reads as it did. -/
def recNamesSpec : ChangeSpec := { name := "recNames", fn := fun _ => fun
  | [] => { results := [.lit (.bool true)], args := [] }
  | _ => none }
def recNamesRow : OpenClaim := { program := "ytcnlgfoomeklbaa", sum := "8c92313cc244f8b4b7e977f8b33eccf74fa8c245dc19555fa2564349ac2fa437", func := "catamaran/catamaranlaw11.RecNames", spec := "recNames", unfollowed := true, recurses := true, apart := false }
def RecNamesSaid : Prop := recNamesRow.holds Try.pinned (OpenSpec.ofChange recNamesSpec)

/-- ITS FALSE NEIGHBOUR: 'it returns false'. Refute it at one input. -/
def recNamesWrong : ChangeSpec := { name := "recNames", fn := fun _ => fun
  | [] => { results := [.lit (.bool false)], args := [] }
  | _ => none }
def RecNamesWrongFalsely : Prop := recNamesRow.holds Try.pinned (OpenSpec.ofChange recNamesWrong)

/-- 'catamaranlaw11.RecBack': WHATEVER THE INPUT: true; the input reads as it did. -/
def recBackSpec : ChangeSpec := { name := "recBack", fn := fun _ => fun
  | [d1, d2] => { results := [.lit (.bool true)], args := [d1, d2] }
  | _ => none }
def recBackRow : OpenClaim := { program := "ytcnlgfoomeklbaa", sum := "8c92313cc244f8b4b7e977f8b33eccf74fa8c245dc19555fa2564349ac2fa437", func := "catamaran/catamaranlaw11.RecBack", spec := "recBack", unfollowed := true, recurses := true, apart := false }
def RecBackSaid : Prop := recBackRow.holds Try.pinned (OpenSpec.ofChange recBackSpec)

/-- ITS FALSE NEIGHBOUR: 'it returns false'. Refute it at one input. -/
def recBackWrong : ChangeSpec := { name := "recBack", fn := fun _ => fun
  | [d1, d2] => { results := [.lit (.bool false)], args := [d1, d2] }
  | _ => none }
def RecBackWrongFalsely : Prop := recBackRow.holds Try.pinned (OpenSpec.ofChange recBackWrong)

/-- 'catamaranlaw11.RecLast': WHATEVER THE INPUT: true; the input reads as it did. -/
def recLastSpec : ChangeSpec := { name := "recLast", fn := fun _ => fun
  | [d1, d2, d3] => { results := [.lit (.bool true)], args := [d1, d2, d3] }
  | _ => none }
def recLastRow : OpenClaim := { program := "ytcnlgfoomeklbaa", sum := "8c92313cc244f8b4b7e977f8b33eccf74fa8c245dc19555fa2564349ac2fa437", func := "catamaran/catamaranlaw11.RecLast", spec := "recLast", unfollowed := true, recurses := true, apart := false }
def RecLastSaid : Prop := recLastRow.holds Try.pinned (OpenSpec.ofChange recLastSpec)

/-- ITS FALSE NEIGHBOUR: 'it returns false'. Refute it at one input. -/
def recLastWrong : ChangeSpec := { name := "recLast", fn := fun _ => fun
  | [d1, d2, d3] => { results := [.lit (.bool false)], args := [d1, d2, d3] }
  | _ => none }
def RecLastWrongFalsely : Prop := recLastRow.holds Try.pinned (OpenSpec.ofChange recLastWrong)

/-- 'catamaranlaw11.RecTable': WHATEVER THE INPUT: true; the input reads as it did. -/
def recTableSpec : ChangeSpec := { name := "recTable", fn := fun _ => fun
  | [d1, d2] => { results := [.lit (.bool true)], args := [d1, d2] }
  | _ => none }
def recTableRow : OpenClaim := { program := "ytcnlgfoomeklbaa", sum := "8c92313cc244f8b4b7e977f8b33eccf74fa8c245dc19555fa2564349ac2fa437", func := "catamaran/catamaranlaw11.RecTable", spec := "recTable", unfollowed := true, recurses := true, apart := false }
def RecTableSaid : Prop := recTableRow.holds Try.pinned (OpenSpec.ofChange recTableSpec)

/-- ITS FALSE NEIGHBOUR: 'it returns false'. Refute it at one input. -/
def recTableWrong : ChangeSpec := { name := "recTable", fn := fun _ => fun
  | [d1, d2] => { results := [.lit (.bool false)], args := [d1, d2] }
  | _ => none }
def RecTableWrongFalsely : Prop := recTableRow.holds Try.pinned (OpenSpec.ofChange recTableWrong)

/-- 'catamaranlaw11.RecTables': WHATEVER THE INPUT: true; the input reads as it did. -/
def recTablesSpec : ChangeSpec := { name := "recTables", fn := fun _ => fun
  | [d1, d2, d3, d4] => { results := [.lit (.bool true)], args := [d1, d2, d3, d4] }
  | _ => none }
def recTablesRow : OpenClaim := { program := "ytcnlgfoomeklbaa", sum := "8c92313cc244f8b4b7e977f8b33eccf74fa8c245dc19555fa2564349ac2fa437", func := "catamaran/catamaranlaw11.RecTables", spec := "recTables", unfollowed := true, recurses := true, apart := false }
def RecTablesSaid : Prop := recTablesRow.holds Try.pinned (OpenSpec.ofChange recTablesSpec)

/-- ITS FALSE NEIGHBOUR: 'it returns false'. Refute it at one input. -/
def recTablesWrong : ChangeSpec := { name := "recTables", fn := fun _ => fun
  | [d1, d2, d3, d4] => { results := [.lit (.bool false)], args := [d1, d2, d3, d4] }
  | _ => none }
def RecTablesWrongFalsely : Prop := recTablesRow.holds Try.pinned (OpenSpec.ofChange recTablesWrong)

/- THE SECOND FORM. 'bulk': how many values and letters a reading holds, each counted each time it is reached (what is shared counts as often as it is met; a slice's spare places count too). A statement '..UptoSaid' is the law's where the arguments, and the package variables that the reading takes, are together of bulk at most 1048576: NARROWER than '..Said'. Prove '..Said' where nothing that the law and all that it calls make is longer than what came in: it says more and counts as full. Else prove '..UptoSaid'. A law counts once. -/
mutual
def uptoBulk {H : Type} : DataW H → Nat
  | .lit (.string bytes) => bytes.length + 1
  | .lit _ => 1
  | .nil => 1
  | .ptr d => uptoBulk d + 1
  | .slice elems spare => uptoBulkAll elems + uptoBulkAll spare + 1
  | .agg parts => uptoBulkAll parts + 1
  | .iface _ d => uptoBulk d + 1
  | .map entries => uptoBulkEntries entries + 1
  | .held _ => 1
def uptoBulkAll {H : Type} : List (DataW H) → Nat
  | [] => 0
  | d :: r => uptoBulk d + uptoBulkAll r
def uptoBulkEntries {H : Type} : List (Lit × DataW H) → Nat
  | [] => 0
  | x :: r => uptoBulkEntry x + uptoBulkEntries r
def uptoBulkEntry {H : Type} : Lit × DataW H → Nat
  | (.string bytes, d) => bytes.length + uptoBulk d + 1
  | (_, d) => uptoBulk d + 1
 end
def uptoSmall : (H : Type) → List (DataW H) → Bool := fun _ ds => decide (uptoBulkAll ds ≤ 1048576)
def OpenSpec.upto (s : _root_.Go.ChangeSpec) : _root_.Go.OpenSpec := { _root_.Go.OpenSpec.ofChange s with cond := some uptoSmall }

/-- 'catamaranlaw11.RecNotes', WHERE WHAT IT READS IS OF BULK AT MOST 1048576: true; the input reads as it did. -/
def recNotesUptoRow : OpenClaim := { program := "ytcnlgfoomeklbaa", sum := "8c92313cc244f8b4b7e977f8b33eccf74fa8c245dc19555fa2564349ac2fa437", func := "catamaran/catamaranlaw11.RecNotes", spec := "recNotes", unfollowed := true, recurses := true, apart := false, narrowed := true }
def RecNotesUptoSaid : Prop := recNotesUptoRow.holds Try.pinned (OpenSpec.upto recNotesSpec)

/-- 'catamaranlaw19.StateTurns', WHERE WHAT IT READS IS OF BULK AT MOST 1048576: true; the input reads as it did. -/
def stateTurnsUptoRow : OpenClaim := { program := "ytcnlgfoomeklbaa", sum := "8c92313cc244f8b4b7e977f8b33eccf74fa8c245dc19555fa2564349ac2fa437", func := "catamaran/catamaranlaw19.StateTurns", spec := "stateTurns", unfollowed := true, recurses := true, apart := false, narrowed := true }
def StateTurnsUptoSaid : Prop := stateTurnsUptoRow.holds Try.pinned (OpenSpec.upto stateTurnsSpec)

/-- 'catamaranlaw19.StateTells', WHERE WHAT IT READS IS OF BULK AT MOST 1048576: true; the input reads as it did. -/
def stateTellsUptoRow : OpenClaim := { program := "ytcnlgfoomeklbaa", sum := "8c92313cc244f8b4b7e977f8b33eccf74fa8c245dc19555fa2564349ac2fa437", func := "catamaran/catamaranlaw19.StateTells", spec := "stateTells", unfollowed := true, recurses := true, apart := false, narrowed := true }
def StateTellsUptoSaid : Prop := stateTellsUptoRow.holds Try.pinned (OpenSpec.upto stateTellsSpec)

/-- 'catamaranlaw19.StateOne', WHERE WHAT IT READS IS OF BULK AT MOST 1048576: true; the input reads as it did. -/
def stateOneUptoRow : OpenClaim := { program := "ytcnlgfoomeklbaa", sum := "8c92313cc244f8b4b7e977f8b33eccf74fa8c245dc19555fa2564349ac2fa437", func := "catamaran/catamaranlaw19.StateOne", spec := "stateOne", unfollowed := true, recurses := true, apart := false, narrowed := true }
def StateOneUptoSaid : Prop := stateOneUptoRow.holds Try.pinned (OpenSpec.upto stateOneSpec)

/-- 'catamaranlaw19.StateNext', WHERE WHAT IT READS IS OF BULK AT MOST 1048576: true; the input reads as it did. -/
def stateNextUptoRow : OpenClaim := { program := "ytcnlgfoomeklbaa", sum := "8c92313cc244f8b4b7e977f8b33eccf74fa8c245dc19555fa2564349ac2fa437", func := "catamaran/catamaranlaw19.StateNext", spec := "stateNext", unfollowed := true, recurses := true, apart := false, narrowed := true }
def StateNextUptoSaid : Prop := stateNextUptoRow.holds Try.pinned (OpenSpec.upto stateNextSpec)

/-- 'catamaranlaw19.StateNames', WHERE WHAT IT READS IS OF BULK AT MOST 1048576: true; the input reads as it did. -/
def stateNamesUptoRow : OpenClaim := { program := "ytcnlgfoomeklbaa", sum := "8c92313cc244f8b4b7e977f8b33eccf74fa8c245dc19555fa2564349ac2fa437", func := "catamaran/catamaranlaw19.StateNames", spec := "stateNames", unfollowed := true, recurses := true, apart := false, narrowed := true }
def StateNamesUptoSaid : Prop := stateNamesUptoRow.holds Try.pinned (OpenSpec.upto stateNamesSpec)

/-- 'catamaranlaw11.RecNames', WHERE WHAT IT READS IS OF BULK AT MOST 1048576: true; the input reads as it did. -/
def recNamesUptoRow : OpenClaim := { program := "ytcnlgfoomeklbaa", sum := "8c92313cc244f8b4b7e977f8b33eccf74fa8c245dc19555fa2564349ac2fa437", func := "catamaran/catamaranlaw11.RecNames", spec := "recNames", unfollowed := true, recurses := true, apart := false, narrowed := true }
def RecNamesUptoSaid : Prop := recNamesUptoRow.holds Try.pinned (OpenSpec.upto recNamesSpec)

/-- 'catamaranlaw11.RecBack', WHERE WHAT IT READS IS OF BULK AT MOST 1048576: true; the input reads as it did. -/
def recBackUptoRow : OpenClaim := { program := "ytcnlgfoomeklbaa", sum := "8c92313cc244f8b4b7e977f8b33eccf74fa8c245dc19555fa2564349ac2fa437", func := "catamaran/catamaranlaw11.RecBack", spec := "recBack", unfollowed := true, recurses := true, apart := false, narrowed := true }
def RecBackUptoSaid : Prop := recBackUptoRow.holds Try.pinned (OpenSpec.upto recBackSpec)

/-- 'catamaranlaw11.RecLast', WHERE WHAT IT READS IS OF BULK AT MOST 1048576: true; the input reads as it did. -/
def recLastUptoRow : OpenClaim := { program := "ytcnlgfoomeklbaa", sum := "8c92313cc244f8b4b7e977f8b33eccf74fa8c245dc19555fa2564349ac2fa437", func := "catamaran/catamaranlaw11.RecLast", spec := "recLast", unfollowed := true, recurses := true, apart := false, narrowed := true }
def RecLastUptoSaid : Prop := recLastUptoRow.holds Try.pinned (OpenSpec.upto recLastSpec)

/-- 'catamaranlaw11.RecTable', WHERE WHAT IT READS IS OF BULK AT MOST 1048576: true; the input reads as it did. -/
def recTableUptoRow : OpenClaim := { program := "ytcnlgfoomeklbaa", sum := "8c92313cc244f8b4b7e977f8b33eccf74fa8c245dc19555fa2564349ac2fa437", func := "catamaran/catamaranlaw11.RecTable", spec := "recTable", unfollowed := true, recurses := true, apart := false, narrowed := true }
def RecTableUptoSaid : Prop := recTableUptoRow.holds Try.pinned (OpenSpec.upto recTableSpec)

/-- 'catamaranlaw11.RecTables', WHERE WHAT IT READS IS OF BULK AT MOST 1048576: true; the input reads as it did. -/
def recTablesUptoRow : OpenClaim := { program := "ytcnlgfoomeklbaa", sum := "8c92313cc244f8b4b7e977f8b33eccf74fa8c245dc19555fa2564349ac2fa437", func := "catamaran/catamaranlaw11.RecTables", spec := "recTables", unfollowed := true, recurses := true, apart := false, narrowed := true }
def RecTablesUptoSaid : Prop := recTablesUptoRow.holds Try.pinned (OpenSpec.upto recTablesSpec)

end Rows
end Go.Proofs.Ytcnlgfoomeklbaa
