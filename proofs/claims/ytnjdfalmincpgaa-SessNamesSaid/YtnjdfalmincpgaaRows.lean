/-
  No cell of these rows narrows 'for every input' (looked for: loops, veiled, ifaces, maps, wideKeys, modest, calm, conditions, laid).
  DERIVED. THE GIVEN ROWS OF THIS SEAT. 6 by the template 'for every input the law returns true; each argument reads behind the call as it read before'; 0 by the template 'total and deterministic' (their statements: YtnjdfalmincpgaaTotals.lean).
  GIVEN WITH THE SEED: the statements are not yours to turn. If you find one false, say at which input.
  Laid BY PROGRAM, IN A SANDBOX (cutbox-rows.mjs): the forced cells as the released guide's own fill.sh prints them over the translation 4d16189860773b64… (all of the seat's roots in one cut). By AI agents, Wed Nov 11 2026. No macro, syntax, notation, axiom, sorry.
-/
import Derived.Test.YtnjdfalmincpgaaChecked
import GoSem.Claim
import GoSem.ClaimJoined
import GoSem.ClaimMapViews
import Derived.JoinedTies
import Derived.KernelRfl
namespace Go.Proofs.Ytnjdfalmincpgaa
/- THE CELL 'sum', in the pinned program and in every row, IS THE sha256 OF THE DUMP (.gsa) THAT YtnjdfalmincpgaaProg.lean LOADS. Nothing in Lean hashes anything: it is a label: what it is worth is what the hold of that sum in a sandbox is worth. -/
noncomputable def Try.pinned : Pinned := { name := "ytnjdfalmincpgaa", sum := "4d16189860773b64bb000b056d9c83268026e962e9ad0a92c647cfaed9477834", checked := Try.checked }
namespace Rows
def none {H : Type} : Left H := { results := [], args := [] }

/-- 'catamaranlaw17.SessTells': WHATEVER THE INPUT: true; the input reads as it did. -/
def sessTellsSpec : ChangeSpec := { name := "sessTells", fn := fun _ => fun
  | [d1, d2, d3] => { results := [.lit (.bool true)], args := [d1, d2, d3] }
  | _ => none }
def sessTellsRow : OpenClaim := { program := "ytnjdfalmincpgaa", sum := "4d16189860773b64bb000b056d9c83268026e962e9ad0a92c647cfaed9477834", func := "catamaran/catamaranlaw17.SessTells", spec := "sessTells", unfollowed := true, recurses := true, apart := false }
def SessTellsSaid : Prop := sessTellsRow.holds Try.pinned (OpenSpec.ofChange sessTellsSpec)

/-- ITS FALSE NEIGHBOUR: 'it returns false'. Refute it at one input. -/
def sessTellsWrong : ChangeSpec := { name := "sessTells", fn := fun _ => fun
  | [d1, d2, d3] => { results := [.lit (.bool false)], args := [d1, d2, d3] }
  | _ => none }
def SessTellsWrongFalsely : Prop := sessTellsRow.holds Try.pinned (OpenSpec.ofChange sessTellsWrong)

/-- 'catamaranlaw17.SessTicks': WHATEVER THE INPUT: true; the input reads as it did. -/
def sessTicksSpec : ChangeSpec := { name := "sessTicks", fn := fun _ => fun
  | [d1, d2, d3] => { results := [.lit (.bool true)], args := [d1, d2, d3] }
  | _ => none }
def sessTicksRow : OpenClaim := { program := "ytnjdfalmincpgaa", sum := "4d16189860773b64bb000b056d9c83268026e962e9ad0a92c647cfaed9477834", func := "catamaran/catamaranlaw17.SessTicks", spec := "sessTicks", unfollowed := true, recurses := true, apart := false }
def SessTicksSaid : Prop := sessTicksRow.holds Try.pinned (OpenSpec.ofChange sessTicksSpec)

/-- ITS FALSE NEIGHBOUR: 'it returns false'. Refute it at one input. -/
def sessTicksWrong : ChangeSpec := { name := "sessTicks", fn := fun _ => fun
  | [d1, d2, d3] => { results := [.lit (.bool false)], args := [d1, d2, d3] }
  | _ => none }
def SessTicksWrongFalsely : Prop := sessTicksRow.holds Try.pinned (OpenSpec.ofChange sessTicksWrong)

/-- 'catamaranlaw17.SessTakes': WHATEVER THE INPUT: true; the input reads as it did. -/
def sessTakesSpec : ChangeSpec := { name := "sessTakes", fn := fun _ => fun
  | [d1, d2, d3] => { results := [.lit (.bool true)], args := [d1, d2, d3] }
  | _ => none }
def sessTakesRow : OpenClaim := { program := "ytnjdfalmincpgaa", sum := "4d16189860773b64bb000b056d9c83268026e962e9ad0a92c647cfaed9477834", func := "catamaran/catamaranlaw17.SessTakes", spec := "sessTakes", unfollowed := true, recurses := true, apart := false }
def SessTakesSaid : Prop := sessTakesRow.holds Try.pinned (OpenSpec.ofChange sessTakesSpec)

/-- ITS FALSE NEIGHBOUR: 'it returns false'. Refute it at one input. -/
def sessTakesWrong : ChangeSpec := { name := "sessTakes", fn := fun _ => fun
  | [d1, d2, d3] => { results := [.lit (.bool false)], args := [d1, d2, d3] }
  | _ => none }
def SessTakesWrongFalsely : Prop := sessTakesRow.holds Try.pinned (OpenSpec.ofChange sessTakesWrong)

/-- 'catamaranlaw17.SessNames': WHATEVER THE INPUT: true; the input reads as it did. -/
def sessNamesSpec : ChangeSpec := { name := "sessNames", fn := fun _ => fun
  | [] => { results := [.lit (.bool true)], args := [] }
  | _ => none }
def sessNamesRow : OpenClaim := { program := "ytnjdfalmincpgaa", sum := "4d16189860773b64bb000b056d9c83268026e962e9ad0a92c647cfaed9477834", func := "catamaran/catamaranlaw17.SessNames", spec := "sessNames", unfollowed := true, recurses := true, apart := false }
def SessNamesSaid : Prop := sessNamesRow.holds Try.pinned (OpenSpec.ofChange sessNamesSpec)

/-- ITS FALSE NEIGHBOUR: 'it returns false'. Refute it at one input. -/
def sessNamesWrong : ChangeSpec := { name := "sessNames", fn := fun _ => fun
  | [] => { results := [.lit (.bool false)], args := [] }
  | _ => none }
def SessNamesWrongFalsely : Prop := sessNamesRow.holds Try.pinned (OpenSpec.ofChange sessNamesWrong)

/-- 'catamaranlaw17.SessOnce': WHATEVER THE INPUT: true; the input reads as it did. -/
def sessOnceSpec : ChangeSpec := { name := "sessOnce", fn := fun _ => fun
  | [d1, d2, d3] => { results := [.lit (.bool true)], args := [d1, d2, d3] }
  | _ => none }
def sessOnceRow : OpenClaim := { program := "ytnjdfalmincpgaa", sum := "4d16189860773b64bb000b056d9c83268026e962e9ad0a92c647cfaed9477834", func := "catamaran/catamaranlaw17.SessOnce", spec := "sessOnce", unfollowed := true, recurses := true, apart := false }
def SessOnceSaid : Prop := sessOnceRow.holds Try.pinned (OpenSpec.ofChange sessOnceSpec)

/-- ITS FALSE NEIGHBOUR: 'it returns false'. Refute it at one input. -/
def sessOnceWrong : ChangeSpec := { name := "sessOnce", fn := fun _ => fun
  | [d1, d2, d3] => { results := [.lit (.bool false)], args := [d1, d2, d3] }
  | _ => none }
def SessOnceWrongFalsely : Prop := sessOnceRow.holds Try.pinned (OpenSpec.ofChange sessOnceWrong)

/-- 'catamaranlaw17.SessGoesOn': WHATEVER THE INPUT: true; the input reads as it did. -/
def sessGoesOnSpec : ChangeSpec := { name := "sessGoesOn", fn := fun _ => fun
  | [d1, d2, d3] => { results := [.lit (.bool true)], args := [d1, d2, d3] }
  | _ => none }
def sessGoesOnRow : OpenClaim := { program := "ytnjdfalmincpgaa", sum := "4d16189860773b64bb000b056d9c83268026e962e9ad0a92c647cfaed9477834", func := "catamaran/catamaranlaw17.SessGoesOn", spec := "sessGoesOn", unfollowed := true, recurses := true, apart := false }
def SessGoesOnSaid : Prop := sessGoesOnRow.holds Try.pinned (OpenSpec.ofChange sessGoesOnSpec)

/-- ITS FALSE NEIGHBOUR: 'it returns false'. Refute it at one input. -/
def sessGoesOnWrong : ChangeSpec := { name := "sessGoesOn", fn := fun _ => fun
  | [d1, d2, d3] => { results := [.lit (.bool false)], args := [d1, d2, d3] }
  | _ => none }
def SessGoesOnWrongFalsely : Prop := sessGoesOnRow.holds Try.pinned (OpenSpec.ofChange sessGoesOnWrong)

/- THE SECOND FORM. 'bulk': how many values and letters a reading holds, each counted each time it is reached (what is shared counts as often as it is met; a slice's spare places count too). A statement '..UptoSaid' is the law's where the arguments, and the package variables that the reading takes, are together of bulk at most 1048576: NARROWER than '..Said'. Prove '..Said' where nothing that the law and all that it calls make is longer than what came in: it says more and counts as full. Else prove '..UptoSaid'. A law counts once. -/
mutual
def uptoBulk {H : Type} : DataW H → Nat
  | .lit (.string bytes) => bytes.length + 1
  | .lit _ => 1
  | .nil => 1
  | .ptr d => uptoBulk d + 1
  | .slice elems spare => uptoBulkAll elems + uptoBulkAll spare + 1
  | .agg parts => uptoBulkAll parts + 1
  | .iface _ d => uptoBulk d + 1
  | .map entries => uptoBulkEntries entries + 1
  | .held _ => 1
def uptoBulkAll {H : Type} : List (DataW H) → Nat
  | [] => 0
  | d :: r => uptoBulk d + uptoBulkAll r
def uptoBulkEntries {H : Type} : List (Lit × DataW H) → Nat
  | [] => 0
  | x :: r => uptoBulkEntry x + uptoBulkEntries r
def uptoBulkEntry {H : Type} : Lit × DataW H → Nat
  | (.string bytes, d) => bytes.length + uptoBulk d + 1
  | (_, d) => uptoBulk d + 1
 end
def uptoSmall : (H : Type) → List (DataW H) → Bool := fun _ ds => decide (uptoBulkAll ds ≤ 1048576)
def OpenSpec.upto (s : _root_.Go.ChangeSpec) : _root_.Go.OpenSpec := { _root_.Go.OpenSpec.ofChange s with cond := some uptoSmall }

/-- 'catamaranlaw17.SessTells', WHERE WHAT IT READS IS OF BULK AT MOST 1048576: true; the input reads as it did. -/
def sessTellsUptoRow : OpenClaim := { program := "ytnjdfalmincpgaa", sum := "4d16189860773b64bb000b056d9c83268026e962e9ad0a92c647cfaed9477834", func := "catamaran/catamaranlaw17.SessTells", spec := "sessTells", unfollowed := true, recurses := true, apart := false, narrowed := true }
def SessTellsUptoSaid : Prop := sessTellsUptoRow.holds Try.pinned (OpenSpec.upto sessTellsSpec)

/-- 'catamaranlaw17.SessTicks', WHERE WHAT IT READS IS OF BULK AT MOST 1048576: true; the input reads as it did. -/
def sessTicksUptoRow : OpenClaim := { program := "ytnjdfalmincpgaa", sum := "4d16189860773b64bb000b056d9c83268026e962e9ad0a92c647cfaed9477834", func := "catamaran/catamaranlaw17.SessTicks", spec := "sessTicks", unfollowed := true, recurses := true, apart := false, narrowed := true }
def SessTicksUptoSaid : Prop := sessTicksUptoRow.holds Try.pinned (OpenSpec.upto sessTicksSpec)

/-- 'catamaranlaw17.SessTakes', WHERE WHAT IT READS IS OF BULK AT MOST 1048576: true; the input reads as it did. -/
def sessTakesUptoRow : OpenClaim := { program := "ytnjdfalmincpgaa", sum := "4d16189860773b64bb000b056d9c83268026e962e9ad0a92c647cfaed9477834", func := "catamaran/catamaranlaw17.SessTakes", spec := "sessTakes", unfollowed := true, recurses := true, apart := false, narrowed := true }
def SessTakesUptoSaid : Prop := sessTakesUptoRow.holds Try.pinned (OpenSpec.upto sessTakesSpec)

/-- 'catamaranlaw17.SessNames', WHERE WHAT IT READS IS OF BULK AT MOST 1048576: true; the input reads as it did. -/
def sessNamesUptoRow : OpenClaim := { program := "ytnjdfalmincpgaa", sum := "4d16189860773b64bb000b056d9c83268026e962e9ad0a92c647cfaed9477834", func := "catamaran/catamaranlaw17.SessNames", spec := "sessNames", unfollowed := true, recurses := true, apart := false, narrowed := true }
def SessNamesUptoSaid : Prop := sessNamesUptoRow.holds Try.pinned (OpenSpec.upto sessNamesSpec)

/-- 'catamaranlaw17.SessOnce', WHERE WHAT IT READS IS OF BULK AT MOST 1048576: true; the input reads as it did. -/
def sessOnceUptoRow : OpenClaim := { program := "ytnjdfalmincpgaa", sum := "4d16189860773b64bb000b056d9c83268026e962e9ad0a92c647cfaed9477834", func := "catamaran/catamaranlaw17.SessOnce", spec := "sessOnce", unfollowed := true, recurses := true, apart := false, narrowed := true }
def SessOnceUptoSaid : Prop := sessOnceUptoRow.holds Try.pinned (OpenSpec.upto sessOnceSpec)

/-- 'catamaranlaw17.SessGoesOn', WHERE WHAT IT READS IS OF BULK AT MOST 1048576: true; the input reads as it did. -/
def sessGoesOnUptoRow : OpenClaim := { program := "ytnjdfalmincpgaa", sum := "4d16189860773b64bb000b056d9c83268026e962e9ad0a92c647cfaed9477834", func := "catamaran/catamaranlaw17.SessGoesOn", spec := "sessGoesOn", unfollowed := true, recurses := true, apart := false, narrowed := true }
def SessGoesOnUptoSaid : Prop := sessGoesOnUptoRow.holds Try.pinned (OpenSpec.upto sessGoesOnSpec)

end Rows
end Go.Proofs.Ytnjdfalmincpgaa
