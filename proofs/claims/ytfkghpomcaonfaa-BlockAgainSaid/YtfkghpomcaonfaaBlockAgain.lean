/-
  PROVED HERE: acreagelaw10.BlockAgain returns true at every string, and leaves what was there as it was. No conditions.
-/
import Derived.Test.YtfkghpomcaonfaaBlkAgainW
import Derived.Test.YtfkghpomcaonfaaLift
import Derived.Test.YtfkghpomcaonfaaOpenCells
import Derived.Test.YtfkghpomcaonfaaOpenText
namespace Go.Proofs.Ytfkghpomcaonfaa
open Go.ChangeShapes Go.WideShapes Go.ChangeAt Go.RowKit Go.Joins

set_option maxRecDepth 100000 in
theorem blockAgain_walk (H : Type) (enc : TypeId × Value → H) : LawWalk H enc 6 [9] := by
  intro W base args ds p hval hA hw _
  obtain ⟨v0, d0, rfl, rfl, h0⟩ := trodAll_one hA
  obtain ⟨s, rfl, hs⟩ := open_txt (hval 0 _ _ rfl rfl) h0
  exact blockagain_any s W

set_option maxRecDepth 100000 in
theorem blockAgain_lifted (os : Os) (started : os.Started) (H : Type) (enc : TypeId × Value → H) :
    ReturnsInHanded {} Try.checked os 6 .any (Rows.blockAgainSpec.pre6 enc Try.prog Try.f6 Rows.blockAgainRow.domain false) (Rows.blockAgainSpec.post enc Try.prog Try.f6 false true false false) :=
  lift_law (s := Rows.blockAgainSpec) started _ Try.func6 (by kernel_rfl) rfl rfl Try.underlying4 rfl
    (fun ds h => match ds, h with | [_], _ => ⟨rfl, rfl, rfl⟩) (by kernel_rfl)
    (ChangeSpec.witness6 (enc := enc) (C := Try.checked) false ⟨#[], #[.string ⟨#[]⟩], []⟩ 8 (by kernel_rfl) (by kernel_rfl) (by kernel_rfl) (by kernel_rfl))
    (blockAgain_walk H enc)

set_option maxRecDepth 100000 in
theorem blockAgain_holds : Rows.BlockAgainSaid :=
  OpenClaim.holds_of_wide 6 Try.f6 rfl rfl rfl rfl rfl rfl rfl ⟨rfl, rfl, rfl, rfl, rfl⟩ rfl rfl rfl rfl rfl (by kernel_rfl) Try.func6 (by kernel_rfl)
    (of_decide_eq_true (by kernel_rfl)) (by unfold Func.isWrapper; rw [if_neg (of_decide_eq_false (by kernel_rfl))]; exact ⟨rfl, rfl⟩)
    (fun os started H enc _ => blockAgain_lifted os started H enc)

#print axioms blockAgain_holds

end Go.Proofs.Ytfkghpomcaonfaa
