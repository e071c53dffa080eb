/-
  PROVED HERE: acreagelaw10.BlockFinds returns true at every three strings, and leaves what was there as it was. No conditions.
-/
import Derived.Test.YtfkghpomcaonfaaBlkLawsW
import Derived.Test.YtfkghpomcaonfaaLift
import Derived.Test.YtfkghpomcaonfaaOpenCells
import Derived.Test.YtfkghpomcaonfaaOpenText
namespace Go.Proofs.Ytfkghpomcaonfaa
open Go.ChangeShapes Go.WideShapes Go.ChangeAt Go.RowKit Go.Joins

set_option maxRecDepth 100000 in
theorem blockFinds_walk (H : Type) (enc : TypeId × Value → H) : LawWalk H enc 5 [9, 9, 9] := by
  intro W base args ds p hval hA hw _
  obtain ⟨v0, v1, v2, d0, d1, d2, p0, p1, p2, rfl, rfl, rfl, h0, h1, h2⟩ := trodAll_three hA
  obtain ⟨s, rfl, _⟩ := open_txt (hval 0 _ _ rfl rfl) h0
  obtain ⟨row, rfl, _⟩ := open_txt (hval 1 _ _ rfl rfl) h1
  obtain ⟨col, rfl, _⟩ := open_txt (hval 2 _ _ rfl rfl) h2
  exact blockfinds_any s row col W

set_option maxRecDepth 100000 in
theorem blockFinds_lifted (os : Os) (started : os.Started) (H : Type) (enc : TypeId × Value → H) :
    ReturnsInHanded {} Try.checked os 5 .any (Rows.blockFindsSpec.pre6 enc Try.prog Try.f5 Rows.blockFindsRow.domain false) (Rows.blockFindsSpec.post enc Try.prog Try.f5 false true false false) :=
  lift_law (s := Rows.blockFindsSpec) started _ Try.func5 (by kernel_rfl) rfl rfl Try.underlying4 rfl
    (fun ds h => match ds, h with | [_, _, _], _ => ⟨rfl, rfl, rfl⟩) (by kernel_rfl)
    (ChangeSpec.witness6 (enc := enc) (C := Try.checked) false ⟨#[], #[.string ⟨#[]⟩, .string ⟨#[]⟩, .string ⟨#[]⟩], []⟩ 8 (by kernel_rfl) (by kernel_rfl) (by kernel_rfl) (by kernel_rfl))
    (blockFinds_walk H enc)

set_option maxRecDepth 100000 in
theorem blockFinds_holds : Rows.BlockFindsSaid :=
  OpenClaim.holds_of_wide 5 Try.f5 rfl rfl rfl rfl rfl rfl rfl ⟨rfl, rfl, rfl, rfl, rfl⟩ rfl rfl rfl rfl rfl (by kernel_rfl) Try.func5 (by kernel_rfl)
    (of_decide_eq_true (by kernel_rfl)) (by unfold Func.isWrapper; rw [if_neg (of_decide_eq_false (by kernel_rfl))]; exact ⟨rfl, rfl⟩)
    (fun os started H enc _ => blockFinds_lifted os started H enc)

#print axioms blockFinds_holds

end Go.Proofs.Ytfkghpomcaonfaa
