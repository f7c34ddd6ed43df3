/-
  No cell of these rows narrows 'for every input' (looked for: loops, veiled, ifaces, maps, wideKeys, modest, calm, conditions, laid).
  DERIVED. THE GIVEN ROWS OF THIS SEAT. 11 by the template 'for every input the law returns true; each argument reads behind the call as it read before'; 0 by the template 'total and deterministic' (their statements: YtammdlgpelljmaaTotals.lean).
  GIVEN WITH THE SEED: the statements are not yours to turn. If you find one false, say at which input.
  Laid BY PROGRAM, IN A SANDBOX (cutbox-rows.mjs): the forced cells as the released guide's own fill.sh prints them over the translation 35f25f2cf541671b… (all of the seat's roots in one cut). By AI agents, Wed Nov 11 2026. No macro, syntax, notation, axiom, sorry.
-/
import Derived.Test.YtammdlgpelljmaaChecked
import GoSem.Claim
import GoSem.ClaimJoined
import GoSem.ClaimMapViews
import Derived.JoinedTies
import Derived.KernelRfl
namespace Go.Proofs.Ytammdlgpelljmaa
/- THE CELL 'sum', in the pinned program and in every row, IS THE sha256 OF THE DUMP (.gsa) THAT YtammdlgpelljmaaProg.lean LOADS. Nothing in Lean hashes anything: it is a label: what it is worth is what the hold of that sum in a sandbox is worth. -/
noncomputable def Try.pinned : Pinned := { name := "ytammdlgpelljmaa", sum := "35f25f2cf541671b094f7b7a5ebdec1c40e05a08b4415a3bc56d375f535ed73d", checked := Try.checked }
namespace Rows
def none {H : Type} : Left H := { results := [], args := [] }

/-- 'catamaranlaw07.PlaceFinds': WHATEVER THE INPUT: true; the input reads as it did. -/
def placeFindsSpec : ChangeSpec := { name := "placeFinds", fn := fun _ => fun
  | [d1, d2, d3] => { results := [.lit (.bool true)], args := [d1, d2, d3] }
  | _ => none }
def placeFindsRow : OpenClaim := { program := "ytammdlgpelljmaa", sum := "35f25f2cf541671b094f7b7a5ebdec1c40e05a08b4415a3bc56d375f535ed73d", func := "catamaran/catamaranlaw07.PlaceFinds", spec := "placeFinds", apart := false }
def PlaceFindsSaid : Prop := placeFindsRow.holds Try.pinned (OpenSpec.ofChange placeFindsSpec)

/-- ITS FALSE NEIGHBOUR: 'it returns false'. Refute it at one input. -/
def placeFindsWrong : ChangeSpec := { name := "placeFinds", fn := fun _ => fun
  | [d1, d2, d3] => { results := [.lit (.bool false)], args := [d1, d2, d3] }
  | _ => none }
def PlaceFindsWrongFalsely : Prop := placeFindsRow.holds Try.pinned (OpenSpec.ofChange placeFindsWrong)

/-- 'catamaranlaw07.PlaceTells': WHATEVER THE INPUT: true; the input reads as it did. -/
def placeTellsSpec : ChangeSpec := { name := "placeTells", fn := fun _ => fun
  | [d1, d2] => { results := [.lit (.bool true)], args := [d1, d2] }
  | _ => none }
def placeTellsRow : OpenClaim := { program := "ytammdlgpelljmaa", sum := "35f25f2cf541671b094f7b7a5ebdec1c40e05a08b4415a3bc56d375f535ed73d", func := "catamaran/catamaranlaw07.PlaceTells", spec := "placeTells", apart := false }
def PlaceTellsSaid : Prop := placeTellsRow.holds Try.pinned (OpenSpec.ofChange placeTellsSpec)

/-- ITS FALSE NEIGHBOUR: 'it returns false'. Refute it at one input. -/
def placeTellsWrong : ChangeSpec := { name := "placeTells", fn := fun _ => fun
  | [d1, d2] => { results := [.lit (.bool false)], args := [d1, d2] }
  | _ => none }
def PlaceTellsWrongFalsely : Prop := placeTellsRow.holds Try.pinned (OpenSpec.ofChange placeTellsWrong)

/-- 'catamaranlaw07.PlaceOne': WHATEVER THE INPUT: true; the input reads as it did. -/
def placeOneSpec : ChangeSpec := { name := "placeOne", fn := fun _ => fun
  | [d1, d2] => { results := [.lit (.bool true)], args := [d1, d2] }
  | _ => none }
def placeOneRow : OpenClaim := { program := "ytammdlgpelljmaa", sum := "35f25f2cf541671b094f7b7a5ebdec1c40e05a08b4415a3bc56d375f535ed73d", func := "catamaran/catamaranlaw07.PlaceOne", spec := "placeOne", apart := false }
def PlaceOneSaid : Prop := placeOneRow.holds Try.pinned (OpenSpec.ofChange placeOneSpec)

/-- ITS FALSE NEIGHBOUR: 'it returns false'. Refute it at one input. -/
def placeOneWrong : ChangeSpec := { name := "placeOne", fn := fun _ => fun
  | [d1, d2] => { results := [.lit (.bool false)], args := [d1, d2] }
  | _ => none }
def PlaceOneWrongFalsely : Prop := placeOneRow.holds Try.pinned (OpenSpec.ofChange placeOneWrong)

/-- 'catamaranlaw07.PlaceBack': WHATEVER THE INPUT: true; the input reads as it did. -/
def placeBackSpec : ChangeSpec := { name := "placeBack", fn := fun _ => fun
  | [d1, d2, d3, d4] => { results := [.lit (.bool true)], args := [d1, d2, d3, d4] }
  | _ => none }
def placeBackRow : OpenClaim := { program := "ytammdlgpelljmaa", sum := "35f25f2cf541671b094f7b7a5ebdec1c40e05a08b4415a3bc56d375f535ed73d", func := "catamaran/catamaranlaw07.PlaceBack", spec := "placeBack", apart := false }
def PlaceBackSaid : Prop := placeBackRow.holds Try.pinned (OpenSpec.ofChange placeBackSpec)

/-- ITS FALSE NEIGHBOUR: 'it returns false'. Refute it at one input. -/
def placeBackWrong : ChangeSpec := { name := "placeBack", fn := fun _ => fun
  | [d1, d2, d3, d4] => { results := [.lit (.bool false)], args := [d1, d2, d3, d4] }
  | _ => none }
def PlaceBackWrongFalsely : Prop := placeBackRow.holds Try.pinned (OpenSpec.ofChange placeBackWrong)

/-- 'catamaranlaw07.PlaceNames': WHATEVER THE INPUT: true; the input reads as it did. -/
def placeNamesSpec : ChangeSpec := { name := "placeNames", fn := fun _ => fun
  | [] => { results := [.lit (.bool true)], args := [] }
  | _ => none }
def placeNamesRow : OpenClaim := { program := "ytammdlgpelljmaa", sum := "35f25f2cf541671b094f7b7a5ebdec1c40e05a08b4415a3bc56d375f535ed73d", func := "catamaran/catamaranlaw07.PlaceNames", spec := "placeNames", apart := false }
def PlaceNamesSaid : Prop := placeNamesRow.holds Try.pinned (OpenSpec.ofChange placeNamesSpec)

/-- ITS FALSE NEIGHBOUR: 'it returns false'. Refute it at one input. -/
def placeNamesWrong : ChangeSpec := { name := "placeNames", fn := fun _ => fun
  | [] => { results := [.lit (.bool false)], args := [] }
  | _ => none }
def PlaceNamesWrongFalsely : Prop := placeNamesRow.holds Try.pinned (OpenSpec.ofChange placeNamesWrong)

/-- 'catamaranlaw03.BitsMade': WHATEVER THE INPUT: true; the input reads as it did. -/
def bitsMadeSpec : ChangeSpec := { name := "bitsMade", fn := fun _ => fun
  | [d1, d2, d3] => { results := [.lit (.bool true)], args := [d1, d2, d3] }
  | _ => none }
def bitsMadeRow : OpenClaim := { program := "ytammdlgpelljmaa", sum := "35f25f2cf541671b094f7b7a5ebdec1c40e05a08b4415a3bc56d375f535ed73d", func := "catamaran/catamaranlaw03.BitsMade", spec := "bitsMade", unfollowed := true, recurses := true, apart := false }
def BitsMadeSaid : Prop := bitsMadeRow.holds Try.pinned (OpenSpec.ofChange bitsMadeSpec)

/-- ITS FALSE NEIGHBOUR: 'it returns false'. Refute it at one input. -/
def bitsMadeWrong : ChangeSpec := { name := "bitsMade", fn := fun _ => fun
  | [d1, d2, d3] => { results := [.lit (.bool false)], args := [d1, d2, d3] }
  | _ => none }
def BitsMadeWrongFalsely : Prop := bitsMadeRow.holds Try.pinned (OpenSpec.ofChange bitsMadeWrong)

/-- 'catamaranlaw03.BitsTurned': WHATEVER THE INPUT: true; the input reads as it did. -/
def bitsTurnedSpec : ChangeSpec := { name := "bitsTurned", fn := fun _ => fun
  | [d1, d2, d3, d4, d5] => { results := [.lit (.bool true)], args := [d1, d2, d3, d4, d5] }
  | _ => none }
def bitsTurnedRow : OpenClaim := { program := "ytammdlgpelljmaa", sum := "35f25f2cf541671b094f7b7a5ebdec1c40e05a08b4415a3bc56d375f535ed73d", func := "catamaran/catamaranlaw03.BitsTurned", spec := "bitsTurned", unfollowed := true, recurses := true, apart := false }
def BitsTurnedSaid : Prop := bitsTurnedRow.holds Try.pinned (OpenSpec.ofChange bitsTurnedSpec)

/-- ITS FALSE NEIGHBOUR: 'it returns false'. Refute it at one input. -/
def bitsTurnedWrong : ChangeSpec := { name := "bitsTurned", fn := fun _ => fun
  | [d1, d2, d3, d4, d5] => { results := [.lit (.bool false)], args := [d1, d2, d3, d4, d5] }
  | _ => none }
def BitsTurnedWrongFalsely : Prop := bitsTurnedRow.holds Try.pinned (OpenSpec.ofChange bitsTurnedWrong)

/-- 'catamaranlaw03.BitsAsked': WHATEVER THE INPUT: true; the input reads as it did. -/
def bitsAskedSpec : ChangeSpec := { name := "bitsAsked", fn := fun _ => fun
  | [d1, d2, d3] => { results := [.lit (.bool true)], args := [d1, d2, d3] }
  | _ => none }
def bitsAskedRow : OpenClaim := { program := "ytammdlgpelljmaa", sum := "35f25f2cf541671b094f7b7a5ebdec1c40e05a08b4415a3bc56d375f535ed73d", func := "catamaran/catamaranlaw03.BitsAsked", spec := "bitsAsked", unfollowed := true, recurses := true, apart := false }
def BitsAskedSaid : Prop := bitsAskedRow.holds Try.pinned (OpenSpec.ofChange bitsAskedSpec)

/-- ITS FALSE NEIGHBOUR: 'it returns false'. Refute it at one input. -/
def bitsAskedWrong : ChangeSpec := { name := "bitsAsked", fn := fun _ => fun
  | [d1, d2, d3] => { results := [.lit (.bool false)], args := [d1, d2, d3] }
  | _ => none }
def BitsAskedWrongFalsely : Prop := bitsAskedRow.holds Try.pinned (OpenSpec.ofChange bitsAskedWrong)

/-- 'catamaranlaw03.BitsBack': WHATEVER THE INPUT: true; the input reads as it did. -/
def bitsBackSpec : ChangeSpec := { name := "bitsBack", fn := fun _ => fun
  | [d1, d2, d3] => { results := [.lit (.bool true)], args := [d1, d2, d3] }
  | _ => none }
def bitsBackRow : OpenClaim := { program := "ytammdlgpelljmaa", sum := "35f25f2cf541671b094f7b7a5ebdec1c40e05a08b4415a3bc56d375f535ed73d", func := "catamaran/catamaranlaw03.BitsBack", spec := "bitsBack", unfollowed := true, recurses := true, apart := false }
def BitsBackSaid : Prop := bitsBackRow.holds Try.pinned (OpenSpec.ofChange bitsBackSpec)

/-- ITS FALSE NEIGHBOUR: 'it returns false'. Refute it at one input. -/
def bitsBackWrong : ChangeSpec := { name := "bitsBack", fn := fun _ => fun
  | [d1, d2, d3] => { results := [.lit (.bool false)], args := [d1, d2, d3] }
  | _ => none }
def BitsBackWrongFalsely : Prop := bitsBackRow.holds Try.pinned (OpenSpec.ofChange bitsBackWrong)

/-- 'catamaranlaw03.BitsNames': WHATEVER THE INPUT: true; the input reads as it did. -/
def bitsNamesSpec : ChangeSpec := { name := "bitsNames", fn := fun _ => fun
  | [] => { results := [.lit (.bool true)], args := [] }
  | _ => none }
def bitsNamesRow : OpenClaim := { program := "ytammdlgpelljmaa", sum := "35f25f2cf541671b094f7b7a5ebdec1c40e05a08b4415a3bc56d375f535ed73d", func := "catamaran/catamaranlaw03.BitsNames", spec := "bitsNames", unfollowed := true, recurses := true, apart := false }
def BitsNamesSaid : Prop := bitsNamesRow.holds Try.pinned (OpenSpec.ofChange bitsNamesSpec)

/-- ITS FALSE NEIGHBOUR: 'it returns false'. Refute it at one input. -/
def bitsNamesWrong : ChangeSpec := { name := "bitsNames", fn := fun _ => fun
  | [] => { results := [.lit (.bool false)], args := [] }
  | _ => none }
def BitsNamesWrongFalsely : Prop := bitsNamesRow.holds Try.pinned (OpenSpec.ofChange bitsNamesWrong)

/-- 'catamaranlaw03.BitsBoth': WHATEVER THE INPUT: true; the input reads as it did. -/
def bitsBothSpec : ChangeSpec := { name := "bitsBoth", fn := fun _ => fun
  | [d1, d2, d3, d4] => { results := [.lit (.bool true)], args := [d1, d2, d3, d4] }
  | _ => none }
def bitsBothRow : OpenClaim := { program := "ytammdlgpelljmaa", sum := "35f25f2cf541671b094f7b7a5ebdec1c40e05a08b4415a3bc56d375f535ed73d", func := "catamaran/catamaranlaw03.BitsBoth", spec := "bitsBoth", unfollowed := true, recurses := true, apart := false }
def BitsBothSaid : Prop := bitsBothRow.holds Try.pinned (OpenSpec.ofChange bitsBothSpec)

/-- ITS FALSE NEIGHBOUR: 'it returns false'. Refute it at one input. -/
def bitsBothWrong : ChangeSpec := { name := "bitsBoth", fn := fun _ => fun
  | [d1, d2, d3, d4] => { results := [.lit (.bool false)], args := [d1, d2, d3, d4] }
  | _ => none }
def BitsBothWrongFalsely : Prop := bitsBothRow.holds Try.pinned (OpenSpec.ofChange bitsBothWrong)

/- THE SECOND FORM. 'bulk': how many values and letters a reading holds, each counted each time it is reached (what is shared counts as often as it is met; a slice's spare places count too). A statement '..UptoSaid' is the law's where the arguments, and the package variables that the reading takes, are together of bulk at most 1048576: NARROWER than '..Said'. Prove '..Said' where nothing that the law and all that it calls make is longer than what came in: it says more and counts as full. Else prove '..UptoSaid'. A law counts once. -/
mutual
def uptoBulk {H : Type} : DataW H → Nat
  | .lit (.string bytes) => bytes.length + 1
  | .lit _ => 1
  | .nil => 1
  | .ptr d => uptoBulk d + 1
  | .slice elems spare => uptoBulkAll elems + uptoBulkAll spare + 1
  | .agg parts => uptoBulkAll parts + 1
  | .iface _ d => uptoBulk d + 1
  | .map entries => uptoBulkEntries entries + 1
  | .held _ => 1
def uptoBulkAll {H : Type} : List (DataW H) → Nat
  | [] => 0
  | d :: r => uptoBulk d + uptoBulkAll r
def uptoBulkEntries {H : Type} : List (Lit × DataW H) → Nat
  | [] => 0
  | x :: r => uptoBulkEntry x + uptoBulkEntries r
def uptoBulkEntry {H : Type} : Lit × DataW H → Nat
  | (.string bytes, d) => bytes.length + uptoBulk d + 1
  | (_, d) => uptoBulk d + 1
 end
def uptoSmall : (H : Type) → List (DataW H) → Bool := fun _ ds => decide (uptoBulkAll ds ≤ 1048576)
def OpenSpec.upto (s : _root_.Go.ChangeSpec) : _root_.Go.OpenSpec := { _root_.Go.OpenSpec.ofChange s with cond := some uptoSmall }

/-- 'catamaranlaw07.PlaceFinds', WHERE WHAT IT READS IS OF BULK AT MOST 1048576: true; the input reads as it did. -/
def placeFindsUptoRow : OpenClaim := { program := "ytammdlgpelljmaa", sum := "35f25f2cf541671b094f7b7a5ebdec1c40e05a08b4415a3bc56d375f535ed73d", func := "catamaran/catamaranlaw07.PlaceFinds", spec := "placeFinds", apart := false, narrowed := true }
def PlaceFindsUptoSaid : Prop := placeFindsUptoRow.holds Try.pinned (OpenSpec.upto placeFindsSpec)

/-- 'catamaranlaw07.PlaceTells', WHERE WHAT IT READS IS OF BULK AT MOST 1048576: true; the input reads as it did. -/
def placeTellsUptoRow : OpenClaim := { program := "ytammdlgpelljmaa", sum := "35f25f2cf541671b094f7b7a5ebdec1c40e05a08b4415a3bc56d375f535ed73d", func := "catamaran/catamaranlaw07.PlaceTells", spec := "placeTells", apart := false, narrowed := true }
def PlaceTellsUptoSaid : Prop := placeTellsUptoRow.holds Try.pinned (OpenSpec.upto placeTellsSpec)

/-- 'catamaranlaw07.PlaceOne', WHERE WHAT IT READS IS OF BULK AT MOST 1048576: true; the input reads as it did. -/
def placeOneUptoRow : OpenClaim := { program := "ytammdlgpelljmaa", sum := "35f25f2cf541671b094f7b7a5ebdec1c40e05a08b4415a3bc56d375f535ed73d", func := "catamaran/catamaranlaw07.PlaceOne", spec := "placeOne", apart := false, narrowed := true }
def PlaceOneUptoSaid : Prop := placeOneUptoRow.holds Try.pinned (OpenSpec.upto placeOneSpec)

/-- 'catamaranlaw07.PlaceBack', WHERE WHAT IT READS IS OF BULK AT MOST 1048576: true; the input reads as it did. -/
def placeBackUptoRow : OpenClaim := { program := "ytammdlgpelljmaa", sum := "35f25f2cf541671b094f7b7a5ebdec1c40e05a08b4415a3bc56d375f535ed73d", func := "catamaran/catamaranlaw07.PlaceBack", spec := "placeBack", apart := false, narrowed := true }
def PlaceBackUptoSaid : Prop := placeBackUptoRow.holds Try.pinned (OpenSpec.upto placeBackSpec)

/-- 'catamaranlaw07.PlaceNames', WHERE WHAT IT READS IS OF BULK AT MOST 1048576: true; the input reads as it did. -/
def placeNamesUptoRow : OpenClaim := { program := "ytammdlgpelljmaa", sum := "35f25f2cf541671b094f7b7a5ebdec1c40e05a08b4415a3bc56d375f535ed73d", func := "catamaran/catamaranlaw07.PlaceNames", spec := "placeNames", apart := false, narrowed := true }
def PlaceNamesUptoSaid : Prop := placeNamesUptoRow.holds Try.pinned (OpenSpec.upto placeNamesSpec)

/-- 'catamaranlaw03.BitsMade', WHERE WHAT IT READS IS OF BULK AT MOST 1048576: true; the input reads as it did. -/
def bitsMadeUptoRow : OpenClaim := { program := "ytammdlgpelljmaa", sum := "35f25f2cf541671b094f7b7a5ebdec1c40e05a08b4415a3bc56d375f535ed73d", func := "catamaran/catamaranlaw03.BitsMade", spec := "bitsMade", unfollowed := true, recurses := true, apart := false, narrowed := true }
def BitsMadeUptoSaid : Prop := bitsMadeUptoRow.holds Try.pinned (OpenSpec.upto bitsMadeSpec)

/-- 'catamaranlaw03.BitsTurned', WHERE WHAT IT READS IS OF BULK AT MOST 1048576: true; the input reads as it did. -/
def bitsTurnedUptoRow : OpenClaim := { program := "ytammdlgpelljmaa", sum := "35f25f2cf541671b094f7b7a5ebdec1c40e05a08b4415a3bc56d375f535ed73d", func := "catamaran/catamaranlaw03.BitsTurned", spec := "bitsTurned", unfollowed := true, recurses := true, apart := false, narrowed := true }
def BitsTurnedUptoSaid : Prop := bitsTurnedUptoRow.holds Try.pinned (OpenSpec.upto bitsTurnedSpec)

/-- 'catamaranlaw03.BitsAsked', WHERE WHAT IT READS IS OF BULK AT MOST 1048576: true; the input reads as it did. -/
def bitsAskedUptoRow : OpenClaim := { program := "ytammdlgpelljmaa", sum := "35f25f2cf541671b094f7b7a5ebdec1c40e05a08b4415a3bc56d375f535ed73d", func := "catamaran/catamaranlaw03.BitsAsked", spec := "bitsAsked", unfollowed := true, recurses := true, apart := false, narrowed := true }
def BitsAskedUptoSaid : Prop := bitsAskedUptoRow.holds Try.pinned (OpenSpec.upto bitsAskedSpec)

/-- 'catamaranlaw03.BitsBack', WHERE WHAT IT READS IS OF BULK AT MOST 1048576: true; the input reads as it did. -/
def bitsBackUptoRow : OpenClaim := { program := "ytammdlgpelljmaa", sum := "35f25f2cf541671b094f7b7a5ebdec1c40e05a08b4415a3bc56d375f535ed73d", func := "catamaran/catamaranlaw03.BitsBack", spec := "bitsBack", unfollowed := true, recurses := true, apart := false, narrowed := true }
def BitsBackUptoSaid : Prop := bitsBackUptoRow.holds Try.pinned (OpenSpec.upto bitsBackSpec)

/-- 'catamaranlaw03.BitsNames', WHERE WHAT IT READS IS OF BULK AT MOST 1048576: true; the input reads as it did. -/
def bitsNamesUptoRow : OpenClaim := { program := "ytammdlgpelljmaa", sum := "35f25f2cf541671b094f7b7a5ebdec1c40e05a08b4415a3bc56d375f535ed73d", func := "catamaran/catamaranlaw03.BitsNames", spec := "bitsNames", unfollowed := true, recurses := true, apart := false, narrowed := true }
def BitsNamesUptoSaid : Prop := bitsNamesUptoRow.holds Try.pinned (OpenSpec.upto bitsNamesSpec)

/-- 'catamaranlaw03.BitsBoth', WHERE WHAT IT READS IS OF BULK AT MOST 1048576: true; the input reads as it did. -/
def bitsBothUptoRow : OpenClaim := { program := "ytammdlgpelljmaa", sum := "35f25f2cf541671b094f7b7a5ebdec1c40e05a08b4415a3bc56d375f535ed73d", func := "catamaran/catamaranlaw03.BitsBoth", spec := "bitsBoth", unfollowed := true, recurses := true, apart := false, narrowed := true }
def BitsBothUptoSaid : Prop := bitsBothUptoRow.holds Try.pinned (OpenSpec.upto bitsBothSpec)

end Rows
end Go.Proofs.Ytammdlgpelljmaa
