/-
  No cell of these rows narrows 'for every input' (looked for: loops, veiled, ifaces, maps, wideKeys, modest, calm, conditions, laid).
  DERIVED. THE GIVEN ROWS OF THIS SEAT. 10 by the template 'for every input the law returns true; each argument reads behind the call as it read before'; 0 by the template 'total and deterministic' (their statements: YtjalccnkfpjchaaTotals.lean).
  GIVEN WITH THE SEED: the statements are not yours to turn. If you find one false, say at which input.
  Laid BY PROGRAM, IN A SANDBOX (cutbox-rows.mjs): the forced cells as the released guide's own fill.sh prints them over the translation 8d0dce5d5993a170… (all of the seat's roots in one cut). By AI agents, Wed Nov 11 2026. No macro, syntax, notation, axiom, sorry.
-/
import Derived.Test.YtjalccnkfpjchaaChecked
import GoSem.Claim
import GoSem.ClaimJoined
import GoSem.ClaimMapViews
import Derived.JoinedTies
import Derived.KernelRfl
namespace Go.Proofs.Ytjalccnkfpjchaa
/- THE CELL 'sum', in the pinned program and in every row, IS THE sha256 OF THE DUMP (.gsa) THAT YtjalccnkfpjchaaProg.lean LOADS. Nothing in Lean hashes anything: it is a label: what it is worth is what the hold of that sum in a sandbox is worth. -/
noncomputable def Try.pinned : Pinned := { name := "ytjalccnkfpjchaa", sum := "8d0dce5d5993a170f6f1a5a4a3a515af23053e361ad9f6f1b10b8a83ea4c6ce2", checked := Try.checked }
namespace Rows
def none {H : Type} : Left H := { results := [], args := [] }

/-- 'acreagelaw04.CellsLays': WHATEVER THE INPUT: true; the input reads as it did. -/
def cellsLaysSpec : ChangeSpec := { name := "cellsLays", fn := fun _ => fun
  | [d] => { results := [.lit (.bool true)], args := [d] }
  | _ => none }
def cellsLaysRow : OpenClaim := { program := "ytjalccnkfpjchaa", sum := "8d0dce5d5993a170f6f1a5a4a3a515af23053e361ad9f6f1b10b8a83ea4c6ce2", func := "acreage/acreagelaw04.CellsLays", spec := "cellsLays", inPlace := ["internal/bytealg.abigen_runtime_cmpstring"], unfollowed := true, recurses := true, apart := false }
def CellsLaysSaid : Prop := cellsLaysRow.holds Try.pinned (OpenSpec.ofChange cellsLaysSpec)

/-- ITS FALSE NEIGHBOUR: 'it returns false'. Refute it at one input. -/
def cellsLaysWrong : ChangeSpec := { name := "cellsLays", fn := fun _ => fun
  | [d] => { results := [.lit (.bool false)], args := [d] }
  | _ => none }
def CellsLaysWrongFalsely : Prop := cellsLaysRow.holds Try.pinned (OpenSpec.ofChange cellsLaysWrong)

/-- 'acreagelaw04.CellsOrder': WHATEVER THE INPUT: true; the input reads as it did. -/
def cellsOrderSpec : ChangeSpec := { name := "cellsOrder", fn := fun _ => fun
  | [d] => { results := [.lit (.bool true)], args := [d] }
  | _ => none }
def cellsOrderRow : OpenClaim := { program := "ytjalccnkfpjchaa", sum := "8d0dce5d5993a170f6f1a5a4a3a515af23053e361ad9f6f1b10b8a83ea4c6ce2", func := "acreage/acreagelaw04.CellsOrder", spec := "cellsOrder", inPlace := ["internal/bytealg.abigen_runtime_cmpstring"], unfollowed := true, recurses := true, apart := false }
def CellsOrderSaid : Prop := cellsOrderRow.holds Try.pinned (OpenSpec.ofChange cellsOrderSpec)

/-- ITS FALSE NEIGHBOUR: 'it returns false'. Refute it at one input. -/
def cellsOrderWrong : ChangeSpec := { name := "cellsOrder", fn := fun _ => fun
  | [d] => { results := [.lit (.bool false)], args := [d] }
  | _ => none }
def CellsOrderWrongFalsely : Prop := cellsOrderRow.holds Try.pinned (OpenSpec.ofChange cellsOrderWrong)

/-- 'acreagelaw04.CellsLast': WHATEVER THE INPUT: true; the input reads as it did. -/
def cellsLastSpec : ChangeSpec := { name := "cellsLast", fn := fun _ => fun
  | [d1, d2] => { results := [.lit (.bool true)], args := [d1, d2] }
  | _ => none }
def cellsLastRow : OpenClaim := { program := "ytjalccnkfpjchaa", sum := "8d0dce5d5993a170f6f1a5a4a3a515af23053e361ad9f6f1b10b8a83ea4c6ce2", func := "acreage/acreagelaw04.CellsLast", spec := "cellsLast", inPlace := ["internal/bytealg.abigen_runtime_cmpstring"], unfollowed := true, recurses := true, apart := false }
def CellsLastSaid : Prop := cellsLastRow.holds Try.pinned (OpenSpec.ofChange cellsLastSpec)

/-- ITS FALSE NEIGHBOUR: 'it returns false'. Refute it at one input. -/
def cellsLastWrong : ChangeSpec := { name := "cellsLast", fn := fun _ => fun
  | [d1, d2] => { results := [.lit (.bool false)], args := [d1, d2] }
  | _ => none }
def CellsLastWrongFalsely : Prop := cellsLastRow.holds Try.pinned (OpenSpec.ofChange cellsLastWrong)

/-- 'acreagelaw04.CellsSorts': WHATEVER THE INPUT: true; the input reads as it did. -/
def cellsSortsSpec : ChangeSpec := { name := "cellsSorts", fn := fun _ => fun
  | [d] => { results := [.lit (.bool true)], args := [d] }
  | _ => none }
def cellsSortsRow : OpenClaim := { program := "ytjalccnkfpjchaa", sum := "8d0dce5d5993a170f6f1a5a4a3a515af23053e361ad9f6f1b10b8a83ea4c6ce2", func := "acreage/acreagelaw04.CellsSorts", spec := "cellsSorts", inPlace := ["internal/bytealg.abigen_runtime_cmpstring"], unfollowed := true, recurses := true, apart := false }
def CellsSortsSaid : Prop := cellsSortsRow.holds Try.pinned (OpenSpec.ofChange cellsSortsSpec)

/-- ITS FALSE NEIGHBOUR: 'it returns false'. Refute it at one input. -/
def cellsSortsWrong : ChangeSpec := { name := "cellsSorts", fn := fun _ => fun
  | [d] => { results := [.lit (.bool false)], args := [d] }
  | _ => none }
def CellsSortsWrongFalsely : Prop := cellsSortsRow.holds Try.pinned (OpenSpec.ofChange cellsSortsWrong)

/-- 'acreagelaw04.CellsWithin': WHATEVER THE INPUT: true; the input reads as it did. -/
def cellsWithinSpec : ChangeSpec := { name := "cellsWithin", fn := fun _ => fun
  | [d1, d2] => { results := [.lit (.bool true)], args := [d1, d2] }
  | _ => none }
def cellsWithinRow : OpenClaim := { program := "ytjalccnkfpjchaa", sum := "8d0dce5d5993a170f6f1a5a4a3a515af23053e361ad9f6f1b10b8a83ea4c6ce2", func := "acreage/acreagelaw04.CellsWithin", spec := "cellsWithin", inPlace := ["internal/bytealg.abigen_runtime_cmpstring"], unfollowed := true, recurses := true, apart := false }
def CellsWithinSaid : Prop := cellsWithinRow.holds Try.pinned (OpenSpec.ofChange cellsWithinSpec)

/-- ITS FALSE NEIGHBOUR: 'it returns false'. Refute it at one input. -/
def cellsWithinWrong : ChangeSpec := { name := "cellsWithin", fn := fun _ => fun
  | [d1, d2] => { results := [.lit (.bool false)], args := [d1, d2] }
  | _ => none }
def CellsWithinWrongFalsely : Prop := cellsWithinRow.holds Try.pinned (OpenSpec.ofChange cellsWithinWrong)

/-- 'acreagelaw04.CellsParted': WHATEVER THE INPUT: true; the input reads as it did. -/
def cellsPartedSpec : ChangeSpec := { name := "cellsParted", fn := fun _ => fun
  | [d1, d2] => { results := [.lit (.bool true)], args := [d1, d2] }
  | _ => none }
def cellsPartedRow : OpenClaim := { program := "ytjalccnkfpjchaa", sum := "8d0dce5d5993a170f6f1a5a4a3a515af23053e361ad9f6f1b10b8a83ea4c6ce2", func := "acreage/acreagelaw04.CellsParted", spec := "cellsParted", inPlace := ["internal/bytealg.abigen_runtime_cmpstring"], unfollowed := true, recurses := true, apart := false }
def CellsPartedSaid : Prop := cellsPartedRow.holds Try.pinned (OpenSpec.ofChange cellsPartedSpec)

/-- ITS FALSE NEIGHBOUR: 'it returns false'. Refute it at one input. -/
def cellsPartedWrong : ChangeSpec := { name := "cellsParted", fn := fun _ => fun
  | [d1, d2] => { results := [.lit (.bool false)], args := [d1, d2] }
  | _ => none }
def CellsPartedWrongFalsely : Prop := cellsPartedRow.holds Try.pinned (OpenSpec.ofChange cellsPartedWrong)

/-- 'acreagelaw04.CellsReads': WHATEVER THE INPUT: true; the input reads as it did. -/
def cellsReadsSpec : ChangeSpec := { name := "cellsReads", fn := fun _ => fun
  | [d] => { results := [.lit (.bool true)], args := [d] }
  | _ => none }
def cellsReadsRow : OpenClaim := { program := "ytjalccnkfpjchaa", sum := "8d0dce5d5993a170f6f1a5a4a3a515af23053e361ad9f6f1b10b8a83ea4c6ce2", func := "acreage/acreagelaw04.CellsReads", spec := "cellsReads", inPlace := ["internal/bytealg.abigen_runtime_cmpstring"], unfollowed := true, recurses := true, apart := false }
def CellsReadsSaid : Prop := cellsReadsRow.holds Try.pinned (OpenSpec.ofChange cellsReadsSpec)

/-- ITS FALSE NEIGHBOUR: 'it returns false'. Refute it at one input. -/
def cellsReadsWrong : ChangeSpec := { name := "cellsReads", fn := fun _ => fun
  | [d] => { results := [.lit (.bool false)], args := [d] }
  | _ => none }
def CellsReadsWrongFalsely : Prop := cellsReadsRow.holds Try.pinned (OpenSpec.ofChange cellsReadsWrong)

/-- 'acreagelaw04.CellsBack': WHATEVER THE INPUT: true; the input reads as it did. -/
def cellsBackSpec : ChangeSpec := { name := "cellsBack", fn := fun _ => fun
  | [d] => { results := [.lit (.bool true)], args := [d] }
  | _ => none }
def cellsBackRow : OpenClaim := { program := "ytjalccnkfpjchaa", sum := "8d0dce5d5993a170f6f1a5a4a3a515af23053e361ad9f6f1b10b8a83ea4c6ce2", func := "acreage/acreagelaw04.CellsBack", spec := "cellsBack", inPlace := ["internal/bytealg.abigen_runtime_cmpstring"], unfollowed := true, recurses := true, apart := false }
def CellsBackSaid : Prop := cellsBackRow.holds Try.pinned (OpenSpec.ofChange cellsBackSpec)

/-- ITS FALSE NEIGHBOUR: 'it returns false'. Refute it at one input. -/
def cellsBackWrong : ChangeSpec := { name := "cellsBack", fn := fun _ => fun
  | [d] => { results := [.lit (.bool false)], args := [d] }
  | _ => none }
def CellsBackWrongFalsely : Prop := cellsBackRow.holds Try.pinned (OpenSpec.ofChange cellsBackWrong)

/-- 'acreagelaw04.CellsAgain': WHATEVER THE INPUT: true; the input reads as it did. -/
def cellsAgainSpec : ChangeSpec := { name := "cellsAgain", fn := fun _ => fun
  | [d] => { results := [.lit (.bool true)], args := [d] }
  | _ => none }
def cellsAgainRow : OpenClaim := { program := "ytjalccnkfpjchaa", sum := "8d0dce5d5993a170f6f1a5a4a3a515af23053e361ad9f6f1b10b8a83ea4c6ce2", func := "acreage/acreagelaw04.CellsAgain", spec := "cellsAgain", inPlace := ["internal/bytealg.abigen_runtime_cmpstring"], unfollowed := true, recurses := true, apart := false }
def CellsAgainSaid : Prop := cellsAgainRow.holds Try.pinned (OpenSpec.ofChange cellsAgainSpec)

/-- ITS FALSE NEIGHBOUR: 'it returns false'. Refute it at one input. -/
def cellsAgainWrong : ChangeSpec := { name := "cellsAgain", fn := fun _ => fun
  | [d] => { results := [.lit (.bool false)], args := [d] }
  | _ => none }
def CellsAgainWrongFalsely : Prop := cellsAgainRow.holds Try.pinned (OpenSpec.ofChange cellsAgainWrong)

/-- 'acreagelaw04.CellsKnown': WHATEVER THE INPUT: true; the input reads as it did. -/
def cellsKnownSpec : ChangeSpec := { name := "cellsKnown", fn := fun _ => fun
  | [] => { results := [.lit (.bool true)], args := [] }
  | _ => none }
def cellsKnownRow : OpenClaim := { program := "ytjalccnkfpjchaa", sum := "8d0dce5d5993a170f6f1a5a4a3a515af23053e361ad9f6f1b10b8a83ea4c6ce2", func := "acreage/acreagelaw04.CellsKnown", spec := "cellsKnown", inPlace := ["internal/bytealg.abigen_runtime_cmpstring"], unfollowed := true, recurses := true, apart := false }
def CellsKnownSaid : Prop := cellsKnownRow.holds Try.pinned (OpenSpec.ofChange cellsKnownSpec)

/-- ITS FALSE NEIGHBOUR: 'it returns false'. Refute it at one input. -/
def cellsKnownWrong : ChangeSpec := { name := "cellsKnown", fn := fun _ => fun
  | [] => { results := [.lit (.bool false)], args := [] }
  | _ => none }
def CellsKnownWrongFalsely : Prop := cellsKnownRow.holds Try.pinned (OpenSpec.ofChange cellsKnownWrong)

/- THE SECOND FORM. 'bulk': how many values and letters a reading holds, each counted each time it is reached (what is shared counts as often as it is met; a slice's spare places count too). A statement '..UptoSaid' is the law's where the arguments, and the package variables that the reading takes, are together of bulk at most 1048576: NARROWER than '..Said'. Prove '..Said' where nothing that the law and all that it calls make is longer than what came in: it says more and counts as full. Else prove '..UptoSaid'. A law counts once. -/
mutual
def uptoBulk {H : Type} : DataW H → Nat
  | .lit (.string bytes) => bytes.length + 1
  | .lit _ => 1
  | .nil => 1
  | .ptr d => uptoBulk d + 1
  | .slice elems spare => uptoBulkAll elems + uptoBulkAll spare + 1
  | .agg parts => uptoBulkAll parts + 1
  | .iface _ d => uptoBulk d + 1
  | .map entries => uptoBulkEntries entries + 1
  | .held _ => 1
def uptoBulkAll {H : Type} : List (DataW H) → Nat
  | [] => 0
  | d :: r => uptoBulk d + uptoBulkAll r
def uptoBulkEntries {H : Type} : List (Lit × DataW H) → Nat
  | [] => 0
  | x :: r => uptoBulkEntry x + uptoBulkEntries r
def uptoBulkEntry {H : Type} : Lit × DataW H → Nat
  | (.string bytes, d) => bytes.length + uptoBulk d + 1
  | (_, d) => uptoBulk d + 1
 end
def uptoSmall : (H : Type) → List (DataW H) → Bool := fun _ ds => decide (uptoBulkAll ds ≤ 1048576)
def OpenSpec.upto (s : _root_.Go.ChangeSpec) : _root_.Go.OpenSpec := { _root_.Go.OpenSpec.ofChange s with cond := some uptoSmall }

/-- 'acreagelaw04.CellsLays', WHERE WHAT IT READS IS OF BULK AT MOST 1048576: true; the input reads as it did. -/
def cellsLaysUptoRow : OpenClaim := { program := "ytjalccnkfpjchaa", sum := "8d0dce5d5993a170f6f1a5a4a3a515af23053e361ad9f6f1b10b8a83ea4c6ce2", func := "acreage/acreagelaw04.CellsLays", spec := "cellsLays", inPlace := ["internal/bytealg.abigen_runtime_cmpstring"], unfollowed := true, recurses := true, apart := false, narrowed := true }
def CellsLaysUptoSaid : Prop := cellsLaysUptoRow.holds Try.pinned (OpenSpec.upto cellsLaysSpec)

/-- 'acreagelaw04.CellsOrder', WHERE WHAT IT READS IS OF BULK AT MOST 1048576: true; the input reads as it did. -/
def cellsOrderUptoRow : OpenClaim := { program := "ytjalccnkfpjchaa", sum := "8d0dce5d5993a170f6f1a5a4a3a515af23053e361ad9f6f1b10b8a83ea4c6ce2", func := "acreage/acreagelaw04.CellsOrder", spec := "cellsOrder", inPlace := ["internal/bytealg.abigen_runtime_cmpstring"], unfollowed := true, recurses := true, apart := false, narrowed := true }
def CellsOrderUptoSaid : Prop := cellsOrderUptoRow.holds Try.pinned (OpenSpec.upto cellsOrderSpec)

/-- 'acreagelaw04.CellsLast', WHERE WHAT IT READS IS OF BULK AT MOST 1048576: true; the input reads as it did. -/
def cellsLastUptoRow : OpenClaim := { program := "ytjalccnkfpjchaa", sum := "8d0dce5d5993a170f6f1a5a4a3a515af23053e361ad9f6f1b10b8a83ea4c6ce2", func := "acreage/acreagelaw04.CellsLast", spec := "cellsLast", inPlace := ["internal/bytealg.abigen_runtime_cmpstring"], unfollowed := true, recurses := true, apart := false, narrowed := true }
def CellsLastUptoSaid : Prop := cellsLastUptoRow.holds Try.pinned (OpenSpec.upto cellsLastSpec)

/-- 'acreagelaw04.CellsSorts', WHERE WHAT IT READS IS OF BULK AT MOST 1048576: true; the input reads as it did. -/
def cellsSortsUptoRow : OpenClaim := { program := "ytjalccnkfpjchaa", sum := "8d0dce5d5993a170f6f1a5a4a3a515af23053e361ad9f6f1b10b8a83ea4c6ce2", func := "acreage/acreagelaw04.CellsSorts", spec := "cellsSorts", inPlace := ["internal/bytealg.abigen_runtime_cmpstring"], unfollowed := true, recurses := true, apart := false, narrowed := true }
def CellsSortsUptoSaid : Prop := cellsSortsUptoRow.holds Try.pinned (OpenSpec.upto cellsSortsSpec)

/-- 'acreagelaw04.CellsWithin', WHERE WHAT IT READS IS OF BULK AT MOST 1048576: true; the input reads as it did. -/
def cellsWithinUptoRow : OpenClaim := { program := "ytjalccnkfpjchaa", sum := "8d0dce5d5993a170f6f1a5a4a3a515af23053e361ad9f6f1b10b8a83ea4c6ce2", func := "acreage/acreagelaw04.CellsWithin", spec := "cellsWithin", inPlace := ["internal/bytealg.abigen_runtime_cmpstring"], unfollowed := true, recurses := true, apart := false, narrowed := true }
def CellsWithinUptoSaid : Prop := cellsWithinUptoRow.holds Try.pinned (OpenSpec.upto cellsWithinSpec)

/-- 'acreagelaw04.CellsParted', WHERE WHAT IT READS IS OF BULK AT MOST 1048576: true; the input reads as it did. -/
def cellsPartedUptoRow : OpenClaim := { program := "ytjalccnkfpjchaa", sum := "8d0dce5d5993a170f6f1a5a4a3a515af23053e361ad9f6f1b10b8a83ea4c6ce2", func := "acreage/acreagelaw04.CellsParted", spec := "cellsParted", inPlace := ["internal/bytealg.abigen_runtime_cmpstring"], unfollowed := true, recurses := true, apart := false, narrowed := true }
def CellsPartedUptoSaid : Prop := cellsPartedUptoRow.holds Try.pinned (OpenSpec.upto cellsPartedSpec)

/-- 'acreagelaw04.CellsReads', WHERE WHAT IT READS IS OF BULK AT MOST 1048576: true; the input reads as it did. -/
def cellsReadsUptoRow : OpenClaim := { program := "ytjalccnkfpjchaa", sum := "8d0dce5d5993a170f6f1a5a4a3a515af23053e361ad9f6f1b10b8a83ea4c6ce2", func := "acreage/acreagelaw04.CellsReads", spec := "cellsReads", inPlace := ["internal/bytealg.abigen_runtime_cmpstring"], unfollowed := true, recurses := true, apart := false, narrowed := true }
def CellsReadsUptoSaid : Prop := cellsReadsUptoRow.holds Try.pinned (OpenSpec.upto cellsReadsSpec)

/-- 'acreagelaw04.CellsBack', WHERE WHAT IT READS IS OF BULK AT MOST 1048576: true; the input reads as it did. -/
def cellsBackUptoRow : OpenClaim := { program := "ytjalccnkfpjchaa", sum := "8d0dce5d5993a170f6f1a5a4a3a515af23053e361ad9f6f1b10b8a83ea4c6ce2", func := "acreage/acreagelaw04.CellsBack", spec := "cellsBack", inPlace := ["internal/bytealg.abigen_runtime_cmpstring"], unfollowed := true, recurses := true, apart := false, narrowed := true }
def CellsBackUptoSaid : Prop := cellsBackUptoRow.holds Try.pinned (OpenSpec.upto cellsBackSpec)

/-- 'acreagelaw04.CellsAgain', WHERE WHAT IT READS IS OF BULK AT MOST 1048576: true; the input reads as it did. -/
def cellsAgainUptoRow : OpenClaim := { program := "ytjalccnkfpjchaa", sum := "8d0dce5d5993a170f6f1a5a4a3a515af23053e361ad9f6f1b10b8a83ea4c6ce2", func := "acreage/acreagelaw04.CellsAgain", spec := "cellsAgain", inPlace := ["internal/bytealg.abigen_runtime_cmpstring"], unfollowed := true, recurses := true, apart := false, narrowed := true }
def CellsAgainUptoSaid : Prop := cellsAgainUptoRow.holds Try.pinned (OpenSpec.upto cellsAgainSpec)

/-- 'acreagelaw04.CellsKnown', WHERE WHAT IT READS IS OF BULK AT MOST 1048576: true; the input reads as it did. -/
def cellsKnownUptoRow : OpenClaim := { program := "ytjalccnkfpjchaa", sum := "8d0dce5d5993a170f6f1a5a4a3a515af23053e361ad9f6f1b10b8a83ea4c6ce2", func := "acreage/acreagelaw04.CellsKnown", spec := "cellsKnown", inPlace := ["internal/bytealg.abigen_runtime_cmpstring"], unfollowed := true, recurses := true, apart := false, narrowed := true }
def CellsKnownUptoSaid : Prop := cellsKnownUptoRow.holds Try.pinned (OpenSpec.upto cellsKnownSpec)

end Rows
end Go.Proofs.Ytjalccnkfpjchaa
