/-
  PROVED HERE: acreagelaw04.CellsReads returns true at every string, and leaves what was there as it was. No conditions.
-/
import Derived.Test.YtjalccnkfpjchaaCellsReadsW
import Derived.Test.YtjalccnkfpjchaaOpenCells
import Derived.Test.YtjalccnkfpjchaaOpenKeys
namespace Go.Proofs.Ytjalccnkfpjchaa
open Go.ChangeShapes Go.WideShapes Go.ChangeAt Go.RowKit Go.Joins

theorem cellsReads_walk (H : Type) (enc : TypeId × Value → H) : LawWalk H enc 9 [9] := by
  intro W base args ds p hval hA hw _
  obtain ⟨v0, d0, rfl, rfl, h0⟩ := trodAll_one hA
  obtain ⟨s, rfl, hs⟩ := open_text (hval 0 _ _ rfl rfl) h0
  exact cellsreads_any s W hs

set_option maxRecDepth 100000 in
theorem cellsReads_lifted (os : Os) (started : os.Started) (H : Type) (enc : TypeId × Value → H) :
    ReturnsInHanded {} Try.checked os 9 .any (Rows.cellsReadsSpec.pre6 enc Try.prog Try.f9 Rows.cellsReadsRow.domain false) (Rows.cellsReadsSpec.post enc Try.prog Try.f9 false true false false) :=
  lift_law (s := Rows.cellsReadsSpec) started _ Try.func9 (by kernel_rfl) rfl rfl Try.underlying4 rfl
    (fun ds h => match ds, h with | [_], _ => ⟨rfl, rfl, rfl⟩) (by kernel_rfl)
    (ChangeSpec.witness6 (enc := enc) (C := Try.checked) false ⟨#[], #[.string ⟨#[]⟩], []⟩ 8 (by kernel_rfl) (by kernel_rfl) (by kernel_rfl) (by kernel_rfl))
    (cellsReads_walk H enc)

set_option maxRecDepth 100000 in
theorem cellsReads_holds : Rows.CellsReadsSaid :=
  OpenClaim.holds_of_wide 9 Try.f9 rfl rfl rfl rfl rfl rfl rfl ⟨rfl, rfl, rfl, rfl, rfl⟩ rfl rfl rfl rfl rfl (by kernel_rfl) Try.func9 (by kernel_rfl)
    (of_decide_eq_true (by kernel_rfl)) (by unfold Func.isWrapper; rw [if_neg (of_decide_eq_false (by kernel_rfl))]; exact ⟨rfl, rfl⟩)
    (fun os started H enc _ => cellsReads_lifted os started H enc)

#print axioms cellsReads_holds

end Go.Proofs.Ytjalccnkfpjchaa
