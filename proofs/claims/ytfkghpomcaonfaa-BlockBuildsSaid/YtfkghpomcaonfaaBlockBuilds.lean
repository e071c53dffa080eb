/-
  PROVED HERE: acreagelaw10.BlockBuilds returns true at every list of cells, and leaves what was there as it was. No conditions.
-/
import Derived.Test.YtfkghpomcaonfaaBlkLawsW
import Derived.Test.YtfkghpomcaonfaaLift
import Derived.Test.YtfkghpomcaonfaaOpenCells
namespace Go.Proofs.Ytfkghpomcaonfaa
open Go.ChangeShapes Go.WideShapes Go.ChangeAt Go.RowKit Go.Joins

set_option maxRecDepth 100000 in
theorem blockBuilds_walk (H : Type) (enc : TypeId × Value → H) : LawWalk H enc 3 [22] := by
  intro W base args ds p hval hA hw _
  obtain ⟨v0, d0, rfl, rfl, h0⟩ := trodAll_one hA
  obtain ⟨ao, len, cap, cs, rfl, hc, hok⟩ := open_cells (hval 0 _ _ rfl rfl) h0
  have hwt := slice_weight Try.underlying22 h0 (B := reachBytes) (by simpa [DataW.weightsEach] using hw)
  rw [bytes_cell] at hwt
  exact blockbuilds_any ao len cap cs W hc hok (Nat.le_trans hwt (by unfold reachBytes; omega))

set_option maxRecDepth 100000 in
theorem blockBuilds_lifted (os : Os) (started : os.Started) (H : Type) (enc : TypeId × Value → H) :
    ReturnsInHanded {} Try.checked os 3 .any (Rows.blockBuildsSpec.pre6 enc Try.prog Try.f3 Rows.blockBuildsRow.domain false) (Rows.blockBuildsSpec.post enc Try.prog Try.f3 false true false false) :=
  lift_law (s := Rows.blockBuildsSpec) started _ Try.func3 (by kernel_rfl) rfl rfl Try.underlying4 rfl
    (fun ds h => match ds, h with | [_], _ => ⟨rfl, rfl, rfl⟩) (by kernel_rfl)
    (ChangeSpec.witness6 (enc := enc) (C := Try.checked) false ⟨#[], #[.slice none 0 0], []⟩ 8 (by kernel_rfl) (by kernel_rfl) (by kernel_rfl) (by kernel_rfl))
    (blockBuilds_walk H enc)

set_option maxRecDepth 100000 in
theorem blockBuilds_holds : Rows.BlockBuildsSaid :=
  OpenClaim.holds_of_wide 3 Try.f3 rfl rfl rfl rfl rfl rfl rfl ⟨rfl, rfl, rfl, rfl, rfl⟩ rfl rfl rfl rfl rfl (by kernel_rfl) Try.func3 (by kernel_rfl)
    (of_decide_eq_true (by kernel_rfl)) (by unfold Func.isWrapper; rw [if_neg (of_decide_eq_false (by kernel_rfl))]; exact ⟨rfl, rfl⟩)
    (fun os started H enc _ => blockBuilds_lifted os started H enc)

#print axioms blockBuilds_holds

end Go.Proofs.Ytfkghpomcaonfaa
