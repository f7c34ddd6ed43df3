/-
  No cell of these rows narrows 'for every input' (looked for: loops, veiled, ifaces, maps, wideKeys, modest, calm, conditions, laid).
  DERIVED. THE GIVEN ROWS OF THIS SEAT. 7 by the template 'for every input the law returns true; each argument reads behind the call as it read before'; 0 by the template 'total and deterministic' (their statements: YtanpdbdpphdblaaTotals.lean).
  GIVEN WITH THE SEED: the statements are not yours to turn. If you find one false, say at which input.
  Laid BY PROGRAM, IN A SANDBOX (cutbox-rows.mjs): the forced cells as the released guide's own fill.sh prints them over the translation ccf075bdcb77ef8b… (all of the seat's roots in one cut). By AI agents, Wed Nov 11 2026. No macro, syntax, notation, axiom, sorry.
-/
import Derived.Test.YtanpdbdpphdblaaChecked
import GoSem.Claim
import GoSem.ClaimJoined
import GoSem.ClaimMapViews
import Derived.JoinedTies
import Derived.KernelRfl
namespace Go.Proofs.Ytanpdbdpphdblaa
/- THE CELL 'sum', in the pinned program and in every row, IS THE sha256 OF THE DUMP (.gsa) THAT YtanpdbdpphdblaaProg.lean LOADS. Nothing in Lean hashes anything: it is a label: what it is worth is what the hold of that sum in a sandbox is worth. -/
noncomputable def Try.pinned : Pinned := { name := "ytanpdbdpphdblaa", sum := "ccf075bdcb77ef8bab4f76a7a9490d15eecb92f955adaf0c330b297c204e8c62", checked := Try.checked }
namespace Rows
def none {H : Type} : Left H := { results := [], args := [] }

/-- 'catamaranlaw15.FrameNames': WHATEVER THE INPUT: true; the input reads as it did. -/
def frameNamesSpec : ChangeSpec := { name := "frameNames", fn := fun _ => fun
  | [] => { results := [.lit (.bool true)], args := [] }
  | _ => none }
def frameNamesRow : OpenClaim := { program := "ytanpdbdpphdblaa", sum := "ccf075bdcb77ef8bab4f76a7a9490d15eecb92f955adaf0c330b297c204e8c62", func := "catamaran/catamaranlaw15.FrameNames", spec := "frameNames", unfollowed := true, recurses := true, apart := false }
def FrameNamesSaid : Prop := frameNamesRow.holds Try.pinned (OpenSpec.ofChange frameNamesSpec)

/-- ITS FALSE NEIGHBOUR: 'it returns false'. Refute it at one input. -/
def frameNamesWrong : ChangeSpec := { name := "frameNames", fn := fun _ => fun
  | [] => { results := [.lit (.bool false)], args := [] }
  | _ => none }
def FrameNamesWrongFalsely : Prop := frameNamesRow.holds Try.pinned (OpenSpec.ofChange frameNamesWrong)

/-- 'catamaranlaw15.FrameBack': WHATEVER THE INPUT: true; the input reads as it did. -/
def frameBackSpec : ChangeSpec := { name := "frameBack", fn := fun _ => fun
  | [d1, d2] => { results := [.lit (.bool true)], args := [d1, d2] }
  | _ => none }
def frameBackRow : OpenClaim := { program := "ytanpdbdpphdblaa", sum := "ccf075bdcb77ef8bab4f76a7a9490d15eecb92f955adaf0c330b297c204e8c62", func := "catamaran/catamaranlaw15.FrameBack", spec := "frameBack", unfollowed := true, recurses := true, apart := false }
def FrameBackSaid : Prop := frameBackRow.holds Try.pinned (OpenSpec.ofChange frameBackSpec)

/-- ITS FALSE NEIGHBOUR: 'it returns false'. Refute it at one input. -/
def frameBackWrong : ChangeSpec := { name := "frameBack", fn := fun _ => fun
  | [d1, d2] => { results := [.lit (.bool false)], args := [d1, d2] }
  | _ => none }
def FrameBackWrongFalsely : Prop := frameBackRow.holds Try.pinned (OpenSpec.ofChange frameBackWrong)

/-- 'catamaranlaw15.FrameBurst': WHATEVER THE INPUT: true; the input reads as it did. -/
def frameBurstSpec : ChangeSpec := { name := "frameBurst", fn := fun _ => fun
  | [d1, d2, d3] => { results := [.lit (.bool true)], args := [d1, d2, d3] }
  | _ => none }
def frameBurstRow : OpenClaim := { program := "ytanpdbdpphdblaa", sum := "ccf075bdcb77ef8bab4f76a7a9490d15eecb92f955adaf0c330b297c204e8c62", func := "catamaran/catamaranlaw15.FrameBurst", spec := "frameBurst", unfollowed := true, recurses := true, apart := false }
def FrameBurstSaid : Prop := frameBurstRow.holds Try.pinned (OpenSpec.ofChange frameBurstSpec)

/-- ITS FALSE NEIGHBOUR: 'it returns false'. Refute it at one input. -/
def frameBurstWrong : ChangeSpec := { name := "frameBurst", fn := fun _ => fun
  | [d1, d2, d3] => { results := [.lit (.bool false)], args := [d1, d2, d3] }
  | _ => none }
def FrameBurstWrongFalsely : Prop := frameBurstRow.holds Try.pinned (OpenSpec.ofChange frameBurstWrong)

/-- 'catamaranlaw28.ReqNames': WHATEVER THE INPUT: true; the input reads as it did. -/
def reqNamesSpec : ChangeSpec := { name := "reqNames", fn := fun _ => fun
  | [] => { results := [.lit (.bool true)], args := [] }
  | _ => none }
def reqNamesRow : OpenClaim := { program := "ytanpdbdpphdblaa", sum := "ccf075bdcb77ef8bab4f76a7a9490d15eecb92f955adaf0c330b297c204e8c62", func := "catamaran/catamaranlaw28.ReqNames", spec := "reqNames", unfollowed := true, recurses := true, apart := false }
def ReqNamesSaid : Prop := reqNamesRow.holds Try.pinned (OpenSpec.ofChange reqNamesSpec)

/-- ITS FALSE NEIGHBOUR: 'it returns false'. Refute it at one input. -/
def reqNamesWrong : ChangeSpec := { name := "reqNames", fn := fun _ => fun
  | [] => { results := [.lit (.bool false)], args := [] }
  | _ => none }
def ReqNamesWrongFalsely : Prop := reqNamesRow.holds Try.pinned (OpenSpec.ofChange reqNamesWrong)

/-- 'catamaranlaw28.ReqTells': WHATEVER THE INPUT: true; the input reads as it did. -/
def reqTellsSpec : ChangeSpec := { name := "reqTells", fn := fun _ => fun
  | [d1, d2, d3, d4, d5] => { results := [.lit (.bool true)], args := [d1, d2, d3, d4, d5] }
  | _ => none }
def reqTellsRow : OpenClaim := { program := "ytanpdbdpphdblaa", sum := "ccf075bdcb77ef8bab4f76a7a9490d15eecb92f955adaf0c330b297c204e8c62", func := "catamaran/catamaranlaw28.ReqTells", spec := "reqTells", unfollowed := true, recurses := true, apart := false }
def ReqTellsSaid : Prop := reqTellsRow.holds Try.pinned (OpenSpec.ofChange reqTellsSpec)

/-- ITS FALSE NEIGHBOUR: 'it returns false'. Refute it at one input. -/
def reqTellsWrong : ChangeSpec := { name := "reqTells", fn := fun _ => fun
  | [d1, d2, d3, d4, d5] => { results := [.lit (.bool false)], args := [d1, d2, d3, d4, d5] }
  | _ => none }
def ReqTellsWrongFalsely : Prop := reqTellsRow.holds Try.pinned (OpenSpec.ofChange reqTellsWrong)

/-- 'catamaranlaw28.ReqBack': WHATEVER THE INPUT: true; the input reads as it did. -/
def reqBackSpec : ChangeSpec := { name := "reqBack", fn := fun _ => fun
  | [d1, d2, d3, d4] => { results := [.lit (.bool true)], args := [d1, d2, d3, d4] }
  | _ => none }
def reqBackRow : OpenClaim := { program := "ytanpdbdpphdblaa", sum := "ccf075bdcb77ef8bab4f76a7a9490d15eecb92f955adaf0c330b297c204e8c62", func := "catamaran/catamaranlaw28.ReqBack", spec := "reqBack", unfollowed := true, recurses := true, apart := false }
def ReqBackSaid : Prop := reqBackRow.holds Try.pinned (OpenSpec.ofChange reqBackSpec)

/-- ITS FALSE NEIGHBOUR: 'it returns false'. Refute it at one input. -/
def reqBackWrong : ChangeSpec := { name := "reqBack", fn := fun _ => fun
  | [d1, d2, d3, d4] => { results := [.lit (.bool false)], args := [d1, d2, d3, d4] }
  | _ => none }
def ReqBackWrongFalsely : Prop := reqBackRow.holds Try.pinned (OpenSpec.ofChange reqBackWrong)

/-- 'catamaranlaw15.FrameTells': WHATEVER THE INPUT: true; the input reads as it did. -/
def frameTellsSpec : ChangeSpec := { name := "frameTells", fn := fun _ => fun
  | [d1, d2, d3] => { results := [.lit (.bool true)], args := [d1, d2, d3] }
  | _ => none }
def frameTellsRow : OpenClaim := { program := "ytanpdbdpphdblaa", sum := "ccf075bdcb77ef8bab4f76a7a9490d15eecb92f955adaf0c330b297c204e8c62", func := "catamaran/catamaranlaw15.FrameTells", spec := "frameTells", unfollowed := true, recurses := true, apart := false }
def FrameTellsSaid : Prop := frameTellsRow.holds Try.pinned (OpenSpec.ofChange frameTellsSpec)

/-- ITS FALSE NEIGHBOUR: 'it returns false'. Refute it at one input. -/
def frameTellsWrong : ChangeSpec := { name := "frameTells", fn := fun _ => fun
  | [d1, d2, d3] => { results := [.lit (.bool false)], args := [d1, d2, d3] }
  | _ => none }
def FrameTellsWrongFalsely : Prop := frameTellsRow.holds Try.pinned (OpenSpec.ofChange frameTellsWrong)

/- THE SECOND FORM. 'bulk': how many values and letters a reading holds, each counted each time it is reached (what is shared counts as often as it is met; a slice's spare places count too). A statement '..UptoSaid' is the law's where the arguments, and the package variables that the reading takes, are together of bulk at most 1048576: NARROWER than '..Said'. Prove '..Said' where nothing that the law and all that it calls make is longer than what came in: it says more and counts as full. Else prove '..UptoSaid'. A law counts once. -/
mutual
def uptoBulk {H : Type} : DataW H → Nat
  | .lit (.string bytes) => bytes.length + 1
  | .lit _ => 1
  | .nil => 1
  | .ptr d => uptoBulk d + 1
  | .slice elems spare => uptoBulkAll elems + uptoBulkAll spare + 1
  | .agg parts => uptoBulkAll parts + 1
  | .iface _ d => uptoBulk d + 1
  | .map entries => uptoBulkEntries entries + 1
  | .held _ => 1
def uptoBulkAll {H : Type} : List (DataW H) → Nat
  | [] => 0
  | d :: r => uptoBulk d + uptoBulkAll r
def uptoBulkEntries {H : Type} : List (Lit × DataW H) → Nat
  | [] => 0
  | x :: r => uptoBulkEntry x + uptoBulkEntries r
def uptoBulkEntry {H : Type} : Lit × DataW H → Nat
  | (.string bytes, d) => bytes.length + uptoBulk d + 1
  | (_, d) => uptoBulk d + 1
 end
def uptoSmall : (H : Type) → List (DataW H) → Bool := fun _ ds => decide (uptoBulkAll ds ≤ 1048576)
def OpenSpec.upto (s : _root_.Go.ChangeSpec) : _root_.Go.OpenSpec := { _root_.Go.OpenSpec.ofChange s with cond := some uptoSmall }

/-- 'catamaranlaw15.FrameNames', WHERE WHAT IT READS IS OF BULK AT MOST 1048576: true; the input reads as it did. -/
def frameNamesUptoRow : OpenClaim := { program := "ytanpdbdpphdblaa", sum := "ccf075bdcb77ef8bab4f76a7a9490d15eecb92f955adaf0c330b297c204e8c62", func := "catamaran/catamaranlaw15.FrameNames", spec := "frameNames", unfollowed := true, recurses := true, apart := false, narrowed := true }
def FrameNamesUptoSaid : Prop := frameNamesUptoRow.holds Try.pinned (OpenSpec.upto frameNamesSpec)

/-- 'catamaranlaw15.FrameBack', WHERE WHAT IT READS IS OF BULK AT MOST 1048576: true; the input reads as it did. -/
def frameBackUptoRow : OpenClaim := { program := "ytanpdbdpphdblaa", sum := "ccf075bdcb77ef8bab4f76a7a9490d15eecb92f955adaf0c330b297c204e8c62", func := "catamaran/catamaranlaw15.FrameBack", spec := "frameBack", unfollowed := true, recurses := true, apart := false, narrowed := true }
def FrameBackUptoSaid : Prop := frameBackUptoRow.holds Try.pinned (OpenSpec.upto frameBackSpec)

/-- 'catamaranlaw15.FrameBurst', WHERE WHAT IT READS IS OF BULK AT MOST 1048576: true; the input reads as it did. -/
def frameBurstUptoRow : OpenClaim := { program := "ytanpdbdpphdblaa", sum := "ccf075bdcb77ef8bab4f76a7a9490d15eecb92f955adaf0c330b297c204e8c62", func := "catamaran/catamaranlaw15.FrameBurst", spec := "frameBurst", unfollowed := true, recurses := true, apart := false, narrowed := true }
def FrameBurstUptoSaid : Prop := frameBurstUptoRow.holds Try.pinned (OpenSpec.upto frameBurstSpec)

/-- 'catamaranlaw28.ReqNames', WHERE WHAT IT READS IS OF BULK AT MOST 1048576: true; the input reads as it did. -/
def reqNamesUptoRow : OpenClaim := { program := "ytanpdbdpphdblaa", sum := "ccf075bdcb77ef8bab4f76a7a9490d15eecb92f955adaf0c330b297c204e8c62", func := "catamaran/catamaranlaw28.ReqNames", spec := "reqNames", unfollowed := true, recurses := true, apart := false, narrowed := true }
def ReqNamesUptoSaid : Prop := reqNamesUptoRow.holds Try.pinned (OpenSpec.upto reqNamesSpec)

/-- 'catamaranlaw28.ReqTells', WHERE WHAT IT READS IS OF BULK AT MOST 1048576: true; the input reads as it did. -/
def reqTellsUptoRow : OpenClaim := { program := "ytanpdbdpphdblaa", sum := "ccf075bdcb77ef8bab4f76a7a9490d15eecb92f955adaf0c330b297c204e8c62", func := "catamaran/catamaranlaw28.ReqTells", spec := "reqTells", unfollowed := true, recurses := true, apart := false, narrowed := true }
def ReqTellsUptoSaid : Prop := reqTellsUptoRow.holds Try.pinned (OpenSpec.upto reqTellsSpec)

/-- 'catamaranlaw28.ReqBack', WHERE WHAT IT READS IS OF BULK AT MOST 1048576: true; the input reads as it did. -/
def reqBackUptoRow : OpenClaim := { program := "ytanpdbdpphdblaa", sum := "ccf075bdcb77ef8bab4f76a7a9490d15eecb92f955adaf0c330b297c204e8c62", func := "catamaran/catamaranlaw28.ReqBack", spec := "reqBack", unfollowed := true, recurses := true, apart := false, narrowed := true }
def ReqBackUptoSaid : Prop := reqBackUptoRow.holds Try.pinned (OpenSpec.upto reqBackSpec)

/-- 'catamaranlaw15.FrameTells', WHERE WHAT IT READS IS OF BULK AT MOST 1048576: true; the input reads as it did. -/
def frameTellsUptoRow : OpenClaim := { program := "ytanpdbdpphdblaa", sum := "ccf075bdcb77ef8bab4f76a7a9490d15eecb92f955adaf0c330b297c204e8c62", func := "catamaran/catamaranlaw15.FrameTells", spec := "frameTells", unfollowed := true, recurses := true, apart := false, narrowed := true }
def FrameTellsUptoSaid : Prop := frameTellsUptoRow.holds Try.pinned (OpenSpec.upto frameTellsSpec)

end Rows
end Go.Proofs.Ytanpdbdpphdblaa
