/-
  No cell of these rows narrows 'for every input' (looked for: loops, veiled, ifaces, maps, wideKeys, modest, calm, conditions, laid).
  DERIVED. THE GIVEN ROWS OF THIS SEAT. 5 by the template 'for every input the law returns true; each argument reads behind the call as it read before'; 0 by the template 'total and deterministic' (their statements: YtlnfdejflpgleaaTotals.lean).
  GIVEN WITH THE SEED: the statements are not yours to turn. If you find one false, say at which input.
  Laid BY PROGRAM, IN A SANDBOX (cutbox-rows.mjs): the forced cells as the released guide's own fill.sh prints them over the translation 49acc952ca59f58c… (all of the seat's roots in one cut). By AI agents, Wed Nov 11 2026. No macro, syntax, notation, axiom, sorry.
-/
import Derived.Test.YtlnfdejflpgleaaChecked
import GoSem.Claim
import GoSem.ClaimJoined
import GoSem.ClaimMapViews
import Derived.JoinedTies
import Derived.KernelRfl
namespace Go.Proofs.Ytlnfdejflpgleaa
/- THE CELL 'sum', in the pinned program and in every row, IS THE sha256 OF THE DUMP (.gsa) THAT YtlnfdejflpgleaaProg.lean LOADS. Nothing in Lean hashes anything: it is a label: what it is worth is what the hold of that sum in a sandbox is worth. -/
noncomputable def Try.pinned : Pinned := { name := "ytlnfdejflpgleaa", sum := "49acc952ca59f58c0da7e28b8767bdbf1e2ae58ec0b5c4dd5b17fdc5839147bc", checked := Try.checked }
namespace Rows
def none {H : Type} : Left H := { results := [], args := [] }

/-- 'acreagelaw08.SkipStill': WHATEVER THE INPUT: true; the input reads as it did. -/
def skipStillSpec : ChangeSpec := { name := "skipStill", fn := fun _ => fun
  | [d1, d2, d3] => { results := [.lit (.bool true)], args := [d1, d2, d3] }
  | _ => none }
def skipStillRow : OpenClaim := { program := "ytlnfdejflpgleaa", sum := "49acc952ca59f58c0da7e28b8767bdbf1e2ae58ec0b5c4dd5b17fdc5839147bc", func := "acreage/acreagelaw08.SkipStill", spec := "skipStill", inPlace := ["internal/bytealg.abigen_runtime_cmpstring"], unfollowed := true, recurses := true, apart := false }
def SkipStillSaid : Prop := skipStillRow.holds Try.pinned (OpenSpec.ofChange skipStillSpec)

/-- ITS FALSE NEIGHBOUR: 'it returns false'. Refute it at one input. -/
def skipStillWrong : ChangeSpec := { name := "skipStill", fn := fun _ => fun
  | [d1, d2, d3] => { results := [.lit (.bool false)], args := [d1, d2, d3] }
  | _ => none }
def SkipStillWrongFalsely : Prop := skipStillRow.holds Try.pinned (OpenSpec.ofChange skipStillWrong)

/-- 'acreagelaw08.SkipPlays': WHATEVER THE INPUT: true; the input reads as it did. -/
def skipPlaysSpec : ChangeSpec := { name := "skipPlays", fn := fun _ => fun
  | [d] => { results := [.lit (.bool true)], args := [d] }
  | _ => none }
def skipPlaysRow : OpenClaim := { program := "ytlnfdejflpgleaa", sum := "49acc952ca59f58c0da7e28b8767bdbf1e2ae58ec0b5c4dd5b17fdc5839147bc", func := "acreage/acreagelaw08.SkipPlays", spec := "skipPlays", inPlace := ["internal/bytealg.abigen_runtime_cmpstring"], unfollowed := true, recurses := true, apart := false }
def SkipPlaysSaid : Prop := skipPlaysRow.holds Try.pinned (OpenSpec.ofChange skipPlaysSpec)

/-- ITS FALSE NEIGHBOUR: 'it returns false'. Refute it at one input. -/
def skipPlaysWrong : ChangeSpec := { name := "skipPlays", fn := fun _ => fun
  | [d] => { results := [.lit (.bool false)], args := [d] }
  | _ => none }
def SkipPlaysWrongFalsely : Prop := skipPlaysRow.holds Try.pinned (OpenSpec.ofChange skipPlaysWrong)

/-- 'acreagelaw08.SkipKnown': WHATEVER THE INPUT: true; the input reads as it did. -/
def skipKnownSpec : ChangeSpec := { name := "skipKnown", fn := fun _ => fun
  | [] => { results := [.lit (.bool true)], args := [] }
  | _ => none }
def skipKnownRow : OpenClaim := { program := "ytlnfdejflpgleaa", sum := "49acc952ca59f58c0da7e28b8767bdbf1e2ae58ec0b5c4dd5b17fdc5839147bc", func := "acreage/acreagelaw08.SkipKnown", spec := "skipKnown", inPlace := ["internal/bytealg.abigen_runtime_cmpstring"], unfollowed := true, recurses := true, apart := false }
def SkipKnownSaid : Prop := skipKnownRow.holds Try.pinned (OpenSpec.ofChange skipKnownSpec)

/-- ITS FALSE NEIGHBOUR: 'it returns false'. Refute it at one input. -/
def skipKnownWrong : ChangeSpec := { name := "skipKnown", fn := fun _ => fun
  | [] => { results := [.lit (.bool false)], args := [] }
  | _ => none }
def SkipKnownWrongFalsely : Prop := skipKnownRow.holds Try.pinned (OpenSpec.ofChange skipKnownWrong)

/-- 'acreagelaw08.SkipAlike': WHATEVER THE INPUT: true; the input reads as it did. -/
def skipAlikeSpec : ChangeSpec := { name := "skipAlike", fn := fun _ => fun
  | [d1, d2, d3] => { results := [.lit (.bool true)], args := [d1, d2, d3] }
  | _ => none }
def skipAlikeRow : OpenClaim := { program := "ytlnfdejflpgleaa", sum := "49acc952ca59f58c0da7e28b8767bdbf1e2ae58ec0b5c4dd5b17fdc5839147bc", func := "acreage/acreagelaw08.SkipAlike", spec := "skipAlike", inPlace := ["internal/bytealg.abigen_runtime_cmpstring"], unfollowed := true, recurses := true, apart := false }
def SkipAlikeSaid : Prop := skipAlikeRow.holds Try.pinned (OpenSpec.ofChange skipAlikeSpec)

/-- ITS FALSE NEIGHBOUR: 'it returns false'. Refute it at one input. -/
def skipAlikeWrong : ChangeSpec := { name := "skipAlike", fn := fun _ => fun
  | [d1, d2, d3] => { results := [.lit (.bool false)], args := [d1, d2, d3] }
  | _ => none }
def SkipAlikeWrongFalsely : Prop := skipAlikeRow.holds Try.pinned (OpenSpec.ofChange skipAlikeWrong)

/-- 'acreagelaw08.SkipLast': WHATEVER THE INPUT: true; the input reads as it did. -/
def skipLastSpec : ChangeSpec := { name := "skipLast", fn := fun _ => fun
  | [d1, d2] => { results := [.lit (.bool true)], args := [d1, d2] }
  | _ => none }
def skipLastRow : OpenClaim := { program := "ytlnfdejflpgleaa", sum := "49acc952ca59f58c0da7e28b8767bdbf1e2ae58ec0b5c4dd5b17fdc5839147bc", func := "acreage/acreagelaw08.SkipLast", spec := "skipLast", inPlace := ["internal/bytealg.abigen_runtime_cmpstring"], unfollowed := true, recurses := true, apart := false }
def SkipLastSaid : Prop := skipLastRow.holds Try.pinned (OpenSpec.ofChange skipLastSpec)

/-- ITS FALSE NEIGHBOUR: 'it returns false'. Refute it at one input. -/
def skipLastWrong : ChangeSpec := { name := "skipLast", fn := fun _ => fun
  | [d1, d2] => { results := [.lit (.bool false)], args := [d1, d2] }
  | _ => none }
def SkipLastWrongFalsely : Prop := skipLastRow.holds Try.pinned (OpenSpec.ofChange skipLastWrong)

/- THE SECOND FORM. 'bulk': how many values and letters a reading holds, each counted each time it is reached (what is shared counts as often as it is met; a slice's spare places count too). A statement '..UptoSaid' is the law's where the arguments, and the package variables that the reading takes, are together of bulk at most 1048576: NARROWER than '..Said'. Prove '..Said' where nothing that the law and all that it calls make is longer than what came in: it says more and counts as full. Else prove '..UptoSaid'. A law counts once. -/
mutual
def uptoBulk {H : Type} : DataW H → Nat
  | .lit (.string bytes) => bytes.length + 1
  | .lit _ => 1
  | .nil => 1
  | .ptr d => uptoBulk d + 1
  | .slice elems spare => uptoBulkAll elems + uptoBulkAll spare + 1
  | .agg parts => uptoBulkAll parts + 1
  | .iface _ d => uptoBulk d + 1
  | .map entries => uptoBulkEntries entries + 1
  | .held _ => 1
def uptoBulkAll {H : Type} : List (DataW H) → Nat
  | [] => 0
  | d :: r => uptoBulk d + uptoBulkAll r
def uptoBulkEntries {H : Type} : List (Lit × DataW H) → Nat
  | [] => 0
  | x :: r => uptoBulkEntry x + uptoBulkEntries r
def uptoBulkEntry {H : Type} : Lit × DataW H → Nat
  | (.string bytes, d) => bytes.length + uptoBulk d + 1
  | (_, d) => uptoBulk d + 1
 end
def uptoSmall : (H : Type) → List (DataW H) → Bool := fun _ ds => decide (uptoBulkAll ds ≤ 1048576)
def OpenSpec.upto (s : _root_.Go.ChangeSpec) : _root_.Go.OpenSpec := { _root_.Go.OpenSpec.ofChange s with cond := some uptoSmall }

/-- 'acreagelaw08.SkipStill', WHERE WHAT IT READS IS OF BULK AT MOST 1048576: true; the input reads as it did. -/
def skipStillUptoRow : OpenClaim := { program := "ytlnfdejflpgleaa", sum := "49acc952ca59f58c0da7e28b8767bdbf1e2ae58ec0b5c4dd5b17fdc5839147bc", func := "acreage/acreagelaw08.SkipStill", spec := "skipStill", inPlace := ["internal/bytealg.abigen_runtime_cmpstring"], unfollowed := true, recurses := true, apart := false, narrowed := true }
def SkipStillUptoSaid : Prop := skipStillUptoRow.holds Try.pinned (OpenSpec.upto skipStillSpec)

/-- 'acreagelaw08.SkipPlays', WHERE WHAT IT READS IS OF BULK AT MOST 1048576: true; the input reads as it did. -/
def skipPlaysUptoRow : OpenClaim := { program := "ytlnfdejflpgleaa", sum := "49acc952ca59f58c0da7e28b8767bdbf1e2ae58ec0b5c4dd5b17fdc5839147bc", func := "acreage/acreagelaw08.SkipPlays", spec := "skipPlays", inPlace := ["internal/bytealg.abigen_runtime_cmpstring"], unfollowed := true, recurses := true, apart := false, narrowed := true }
def SkipPlaysUptoSaid : Prop := skipPlaysUptoRow.holds Try.pinned (OpenSpec.upto skipPlaysSpec)

/-- 'acreagelaw08.SkipKnown', WHERE WHAT IT READS IS OF BULK AT MOST 1048576: true; the input reads as it did. -/
def skipKnownUptoRow : OpenClaim := { program := "ytlnfdejflpgleaa", sum := "49acc952ca59f58c0da7e28b8767bdbf1e2ae58ec0b5c4dd5b17fdc5839147bc", func := "acreage/acreagelaw08.SkipKnown", spec := "skipKnown", inPlace := ["internal/bytealg.abigen_runtime_cmpstring"], unfollowed := true, recurses := true, apart := false, narrowed := true }
def SkipKnownUptoSaid : Prop := skipKnownUptoRow.holds Try.pinned (OpenSpec.upto skipKnownSpec)

/-- 'acreagelaw08.SkipAlike', WHERE WHAT IT READS IS OF BULK AT MOST 1048576: true; the input reads as it did. -/
def skipAlikeUptoRow : OpenClaim := { program := "ytlnfdejflpgleaa", sum := "49acc952ca59f58c0da7e28b8767bdbf1e2ae58ec0b5c4dd5b17fdc5839147bc", func := "acreage/acreagelaw08.SkipAlike", spec := "skipAlike", inPlace := ["internal/bytealg.abigen_runtime_cmpstring"], unfollowed := true, recurses := true, apart := false, narrowed := true }
def SkipAlikeUptoSaid : Prop := skipAlikeUptoRow.holds Try.pinned (OpenSpec.upto skipAlikeSpec)

/-- 'acreagelaw08.SkipLast', WHERE WHAT IT READS IS OF BULK AT MOST 1048576: true; the input reads as it did. -/
def skipLastUptoRow : OpenClaim := { program := "ytlnfdejflpgleaa", sum := "49acc952ca59f58c0da7e28b8767bdbf1e2ae58ec0b5c4dd5b17fdc5839147bc", func := "acreage/acreagelaw08.SkipLast", spec := "skipLast", inPlace := ["internal/bytealg.abigen_runtime_cmpstring"], unfollowed := true, recurses := true, apart := false, narrowed := true }
def SkipLastUptoSaid : Prop := skipLastUptoRow.holds Try.pinned (OpenSpec.upto skipLastSpec)

end Rows
end Go.Proofs.Ytlnfdejflpgleaa
