/-
  No cell of these rows narrows 'for every input' (looked for: loops, veiled, ifaces, maps, wideKeys, modest, calm, conditions, laid).
  DERIVED. THE GIVEN ROWS OF THIS SEAT. 7 by the template 'for every input the law returns true; each argument reads behind the call as it read before'; 0 by the template 'total and deterministic' (their statements: YtdmepdjlfdigeaaTotals.lean).
  GIVEN WITH THE SEED: the statements are not yours to turn. If you find one false, say at which input.
  Laid BY PROGRAM, IN A SANDBOX (cutbox-rows.mjs): the forced cells as the released guide's own fill.sh prints them over the translation 3f8a8e27971f548d… (all of the seat's roots in one cut). By AI agents, Wed Nov 11 2026. No macro, syntax, notation, axiom, sorry.
-/
import Derived.Test.YtdmepdjlfdigeaaChecked
import GoSem.Claim
import GoSem.ClaimJoined
import GoSem.ClaimMapViews
import Derived.JoinedTies
import Derived.KernelRfl
namespace Go.Proofs.Ytdmepdjlfdigeaa
/- THE CELL 'sum', in the pinned program and in every row, IS THE sha256 OF THE DUMP (.gsa) THAT YtdmepdjlfdigeaaProg.lean LOADS. Nothing in Lean hashes anything: it is a label: what it is worth is what the hold of that sum in a sandbox is worth. -/
noncomputable def Try.pinned : Pinned := { name := "ytdmepdjlfdigeaa", sum := "3f8a8e27971f548d594ee1b1f0a7046d86b4e63b7b67a4ea0febda49f0a0140c", checked := Try.checked }
namespace Rows
def none {H : Type} : Left H := { results := [], args := [] }

/-- 'acreagelaw03.KeysParts': WHATEVER THE INPUT: true; the input reads as it did. -/
def keysPartsSpec : ChangeSpec := { name := "keysParts", fn := fun _ => fun
  | [d1, d2, d3] => { results := [.lit (.bool true)], args := [d1, d2, d3] }
  | _ => none }
def keysPartsRow : OpenClaim := { program := "ytdmepdjlfdigeaa", sum := "3f8a8e27971f548d594ee1b1f0a7046d86b4e63b7b67a4ea0febda49f0a0140c", func := "acreage/acreagelaw03.KeysParts", spec := "keysParts", apart := false }
def KeysPartsSaid : Prop := keysPartsRow.holds Try.pinned (OpenSpec.ofChange keysPartsSpec)

/-- ITS FALSE NEIGHBOUR: 'it returns false'. Refute it at one input. -/
def keysPartsWrong : ChangeSpec := { name := "keysParts", fn := fun _ => fun
  | [d1, d2, d3] => { results := [.lit (.bool false)], args := [d1, d2, d3] }
  | _ => none }
def KeysPartsWrongFalsely : Prop := keysPartsRow.holds Try.pinned (OpenSpec.ofChange keysPartsWrong)

/-- 'acreagelaw03.KeysRanges': WHATEVER THE INPUT: true; the input reads as it did. -/
def keysRangesSpec : ChangeSpec := { name := "keysRanges", fn := fun _ => fun
  | [d1, d2, d3] => { results := [.lit (.bool true)], args := [d1, d2, d3] }
  | _ => none }
def keysRangesRow : OpenClaim := { program := "ytdmepdjlfdigeaa", sum := "3f8a8e27971f548d594ee1b1f0a7046d86b4e63b7b67a4ea0febda49f0a0140c", func := "acreage/acreagelaw03.KeysRanges", spec := "keysRanges", apart := false }
def KeysRangesSaid : Prop := keysRangesRow.holds Try.pinned (OpenSpec.ofChange keysRangesSpec)

/-- ITS FALSE NEIGHBOUR: 'it returns false'. Refute it at one input. -/
def keysRangesWrong : ChangeSpec := { name := "keysRanges", fn := fun _ => fun
  | [d1, d2, d3] => { results := [.lit (.bool false)], args := [d1, d2, d3] }
  | _ => none }
def KeysRangesWrongFalsely : Prop := keysRangesRow.holds Try.pinned (OpenSpec.ofChange keysRangesWrong)

/-- 'acreagelaw03.KeysGap': WHATEVER THE INPUT: true; the input reads as it did. -/
def keysGapSpec : ChangeSpec := { name := "keysGap", fn := fun _ => fun
  | [d] => { results := [.lit (.bool true)], args := [d] }
  | _ => none }
def keysGapRow : OpenClaim := { program := "ytdmepdjlfdigeaa", sum := "3f8a8e27971f548d594ee1b1f0a7046d86b4e63b7b67a4ea0febda49f0a0140c", func := "acreage/acreagelaw03.KeysGap", spec := "keysGap", unfollowed := true, recurses := true, apart := false }
def KeysGapSaid : Prop := keysGapRow.holds Try.pinned (OpenSpec.ofChange keysGapSpec)

/-- ITS FALSE NEIGHBOUR: 'it returns false'. Refute it at one input. -/
def keysGapWrong : ChangeSpec := { name := "keysGap", fn := fun _ => fun
  | [d] => { results := [.lit (.bool false)], args := [d] }
  | _ => none }
def KeysGapWrongFalsely : Prop := keysGapRow.holds Try.pinned (OpenSpec.ofChange keysGapWrong)

/-- 'acreagelaw03.KeysOpen': WHATEVER THE INPUT: true; the input reads as it did. -/
def keysOpenSpec : ChangeSpec := { name := "keysOpen", fn := fun _ => fun
  | [d1, d2] => { results := [.lit (.bool true)], args := [d1, d2] }
  | _ => none }
def keysOpenRow : OpenClaim := { program := "ytdmepdjlfdigeaa", sum := "3f8a8e27971f548d594ee1b1f0a7046d86b4e63b7b67a4ea0febda49f0a0140c", func := "acreage/acreagelaw03.KeysOpen", spec := "keysOpen", unfollowed := true, recurses := true, apart := false }
def KeysOpenSaid : Prop := keysOpenRow.holds Try.pinned (OpenSpec.ofChange keysOpenSpec)

/-- ITS FALSE NEIGHBOUR: 'it returns false'. Refute it at one input. -/
def keysOpenWrong : ChangeSpec := { name := "keysOpen", fn := fun _ => fun
  | [d1, d2] => { results := [.lit (.bool false)], args := [d1, d2] }
  | _ => none }
def KeysOpenWrongFalsely : Prop := keysOpenRow.holds Try.pinned (OpenSpec.ofChange keysOpenWrong)

/-- 'acreagelaw03.KeysOrder': WHATEVER THE INPUT: true; the input reads as it did. -/
def keysOrderSpec : ChangeSpec := { name := "keysOrder", fn := fun _ => fun
  | [d1, d2, d3] => { results := [.lit (.bool true)], args := [d1, d2, d3] }
  | _ => none }
def keysOrderRow : OpenClaim := { program := "ytdmepdjlfdigeaa", sum := "3f8a8e27971f548d594ee1b1f0a7046d86b4e63b7b67a4ea0febda49f0a0140c", func := "acreage/acreagelaw03.KeysOrder", spec := "keysOrder", inPlace := ["internal/bytealg.abigen_runtime_cmpstring"], apart := false }
def KeysOrderSaid : Prop := keysOrderRow.holds Try.pinned (OpenSpec.ofChange keysOrderSpec)

/-- ITS FALSE NEIGHBOUR: 'it returns false'. Refute it at one input. -/
def keysOrderWrong : ChangeSpec := { name := "keysOrder", fn := fun _ => fun
  | [d1, d2, d3] => { results := [.lit (.bool false)], args := [d1, d2, d3] }
  | _ => none }
def KeysOrderWrongFalsely : Prop := keysOrderRow.holds Try.pinned (OpenSpec.ofChange keysOrderWrong)

/-- 'acreagelaw03.KeysCells': WHATEVER THE INPUT: true; the input reads as it did. -/
def keysCellsSpec : ChangeSpec := { name := "keysCells", fn := fun _ => fun
  | [d1, d2] => { results := [.lit (.bool true)], args := [d1, d2] }
  | _ => none }
def keysCellsRow : OpenClaim := { program := "ytdmepdjlfdigeaa", sum := "3f8a8e27971f548d594ee1b1f0a7046d86b4e63b7b67a4ea0febda49f0a0140c", func := "acreage/acreagelaw03.KeysCells", spec := "keysCells", inPlace := ["internal/bytealg.abigen_runtime_cmpstring"], apart := false }
def KeysCellsSaid : Prop := keysCellsRow.holds Try.pinned (OpenSpec.ofChange keysCellsSpec)

/-- ITS FALSE NEIGHBOUR: 'it returns false'. Refute it at one input. -/
def keysCellsWrong : ChangeSpec := { name := "keysCells", fn := fun _ => fun
  | [d1, d2] => { results := [.lit (.bool false)], args := [d1, d2] }
  | _ => none }
def KeysCellsWrongFalsely : Prop := keysCellsRow.holds Try.pinned (OpenSpec.ofChange keysCellsWrong)

/-- 'acreagelaw03.KeysKnown': WHATEVER THE INPUT: true; the input reads as it did. -/
def keysKnownSpec : ChangeSpec := { name := "keysKnown", fn := fun _ => fun
  | [] => { results := [.lit (.bool true)], args := [] }
  | _ => none }
def keysKnownRow : OpenClaim := { program := "ytdmepdjlfdigeaa", sum := "3f8a8e27971f548d594ee1b1f0a7046d86b4e63b7b67a4ea0febda49f0a0140c", func := "acreage/acreagelaw03.KeysKnown", spec := "keysKnown", inPlace := ["internal/bytealg.abigen_runtime_cmpstring"], unfollowed := true, recurses := true, apart := false }
def KeysKnownSaid : Prop := keysKnownRow.holds Try.pinned (OpenSpec.ofChange keysKnownSpec)

/-- ITS FALSE NEIGHBOUR: 'it returns false'. Refute it at one input. -/
def keysKnownWrong : ChangeSpec := { name := "keysKnown", fn := fun _ => fun
  | [] => { results := [.lit (.bool false)], args := [] }
  | _ => none }
def KeysKnownWrongFalsely : Prop := keysKnownRow.holds Try.pinned (OpenSpec.ofChange keysKnownWrong)

/- THE SECOND FORM. 'bulk': how many values and letters a reading holds, each counted each time it is reached (what is shared counts as often as it is met; a slice's spare places count too). A statement '..UptoSaid' is the law's where the arguments, and the package variables that the reading takes, are together of bulk at most 1048576: NARROWER than '..Said'. Prove '..Said' where nothing that the law and all that it calls make is longer than what came in: it says more and counts as full. Else prove '..UptoSaid'. A law counts once. -/
mutual
def uptoBulk {H : Type} : DataW H → Nat
  | .lit (.string bytes) => bytes.length + 1
  | .lit _ => 1
  | .nil => 1
  | .ptr d => uptoBulk d + 1
  | .slice elems spare => uptoBulkAll elems + uptoBulkAll spare + 1
  | .agg parts => uptoBulkAll parts + 1
  | .iface _ d => uptoBulk d + 1
  | .map entries => uptoBulkEntries entries + 1
  | .held _ => 1
def uptoBulkAll {H : Type} : List (DataW H) → Nat
  | [] => 0
  | d :: r => uptoBulk d + uptoBulkAll r
def uptoBulkEntries {H : Type} : List (Lit × DataW H) → Nat
  | [] => 0
  | x :: r => uptoBulkEntry x + uptoBulkEntries r
def uptoBulkEntry {H : Type} : Lit × DataW H → Nat
  | (.string bytes, d) => bytes.length + uptoBulk d + 1
  | (_, d) => uptoBulk d + 1
 end
def uptoSmall : (H : Type) → List (DataW H) → Bool := fun _ ds => decide (uptoBulkAll ds ≤ 1048576)
def OpenSpec.upto (s : _root_.Go.ChangeSpec) : _root_.Go.OpenSpec := { _root_.Go.OpenSpec.ofChange s with cond := some uptoSmall }

/-- 'acreagelaw03.KeysParts', WHERE WHAT IT READS IS OF BULK AT MOST 1048576: true; the input reads as it did. -/
def keysPartsUptoRow : OpenClaim := { program := "ytdmepdjlfdigeaa", sum := "3f8a8e27971f548d594ee1b1f0a7046d86b4e63b7b67a4ea0febda49f0a0140c", func := "acreage/acreagelaw03.KeysParts", spec := "keysParts", apart := false, narrowed := true }
def KeysPartsUptoSaid : Prop := keysPartsUptoRow.holds Try.pinned (OpenSpec.upto keysPartsSpec)

/-- 'acreagelaw03.KeysRanges', WHERE WHAT IT READS IS OF BULK AT MOST 1048576: true; the input reads as it did. -/
def keysRangesUptoRow : OpenClaim := { program := "ytdmepdjlfdigeaa", sum := "3f8a8e27971f548d594ee1b1f0a7046d86b4e63b7b67a4ea0febda49f0a0140c", func := "acreage/acreagelaw03.KeysRanges", spec := "keysRanges", apart := false, narrowed := true }
def KeysRangesUptoSaid : Prop := keysRangesUptoRow.holds Try.pinned (OpenSpec.upto keysRangesSpec)

/-- 'acreagelaw03.KeysGap', WHERE WHAT IT READS IS OF BULK AT MOST 1048576: true; the input reads as it did. -/
def keysGapUptoRow : OpenClaim := { program := "ytdmepdjlfdigeaa", sum := "3f8a8e27971f548d594ee1b1f0a7046d86b4e63b7b67a4ea0febda49f0a0140c", func := "acreage/acreagelaw03.KeysGap", spec := "keysGap", unfollowed := true, recurses := true, apart := false, narrowed := true }
def KeysGapUptoSaid : Prop := keysGapUptoRow.holds Try.pinned (OpenSpec.upto keysGapSpec)

/-- 'acreagelaw03.KeysOpen', WHERE WHAT IT READS IS OF BULK AT MOST 1048576: true; the input reads as it did. -/
def keysOpenUptoRow : OpenClaim := { program := "ytdmepdjlfdigeaa", sum := "3f8a8e27971f548d594ee1b1f0a7046d86b4e63b7b67a4ea0febda49f0a0140c", func := "acreage/acreagelaw03.KeysOpen", spec := "keysOpen", unfollowed := true, recurses := true, apart := false, narrowed := true }
def KeysOpenUptoSaid : Prop := keysOpenUptoRow.holds Try.pinned (OpenSpec.upto keysOpenSpec)

/-- 'acreagelaw03.KeysOrder', WHERE WHAT IT READS IS OF BULK AT MOST 1048576: true; the input reads as it did. -/
def keysOrderUptoRow : OpenClaim := { program := "ytdmepdjlfdigeaa", sum := "3f8a8e27971f548d594ee1b1f0a7046d86b4e63b7b67a4ea0febda49f0a0140c", func := "acreage/acreagelaw03.KeysOrder", spec := "keysOrder", inPlace := ["internal/bytealg.abigen_runtime_cmpstring"], apart := false, narrowed := true }
def KeysOrderUptoSaid : Prop := keysOrderUptoRow.holds Try.pinned (OpenSpec.upto keysOrderSpec)

/-- 'acreagelaw03.KeysCells', WHERE WHAT IT READS IS OF BULK AT MOST 1048576: true; the input reads as it did. -/
def keysCellsUptoRow : OpenClaim := { program := "ytdmepdjlfdigeaa", sum := "3f8a8e27971f548d594ee1b1f0a7046d86b4e63b7b67a4ea0febda49f0a0140c", func := "acreage/acreagelaw03.KeysCells", spec := "keysCells", inPlace := ["internal/bytealg.abigen_runtime_cmpstring"], apart := false, narrowed := true }
def KeysCellsUptoSaid : Prop := keysCellsUptoRow.holds Try.pinned (OpenSpec.upto keysCellsSpec)

/-- 'acreagelaw03.KeysKnown', WHERE WHAT IT READS IS OF BULK AT MOST 1048576: true; the input reads as it did. -/
def keysKnownUptoRow : OpenClaim := { program := "ytdmepdjlfdigeaa", sum := "3f8a8e27971f548d594ee1b1f0a7046d86b4e63b7b67a4ea0febda49f0a0140c", func := "acreage/acreagelaw03.KeysKnown", spec := "keysKnown", inPlace := ["internal/bytealg.abigen_runtime_cmpstring"], unfollowed := true, recurses := true, apart := false, narrowed := true }
def KeysKnownUptoSaid : Prop := keysKnownUptoRow.holds Try.pinned (OpenSpec.upto keysKnownSpec)

end Rows
end Go.Proofs.Ytdmepdjlfdigeaa
