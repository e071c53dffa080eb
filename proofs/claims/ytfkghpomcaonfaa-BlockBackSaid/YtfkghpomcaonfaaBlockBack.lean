/-
  PROVED HERE: acreagelaw10.BlockBack returns true at every list of cells and every two strings, and leaves what was there as it was. No conditions.
-/
import Derived.Test.YtfkghpomcaonfaaBlkBackW
import Derived.Test.YtfkghpomcaonfaaLift
import Derived.Test.YtfkghpomcaonfaaOpenCells
import Derived.Test.YtfkghpomcaonfaaOpenText
namespace Go.Proofs.Ytfkghpomcaonfaa
open Go.ChangeShapes Go.WideShapes Go.ChangeAt Go.RowKit Go.Joins

set_option maxRecDepth 100000 in
theorem blockBack_walk (H : Type) (enc : TypeId × Value → H) : LawWalk H enc 9 [22, 9, 9] := by
  intro W base args ds p hval hA hw _
  obtain ⟨v0, v1, v2, d0, d1, d2, p0, p1, p2, rfl, rfl, rfl, h0, h1, h2⟩ := trodAll_three hA
  obtain ⟨ao, len, cap, cs, rfl, hc, hok⟩ := open_cells (hval 0 _ _ rfl rfl) h0
  obtain ⟨row, rfl, _⟩ := open_txt (hval 1 _ _ rfl rfl) h1
  obtain ⟨col, rfl, _⟩ := open_txt (hval 2 _ _ rfl rfl) h2
  exact blockback_any ao len cap cs row col W hc hok

set_option maxRecDepth 100000 in
theorem blockBack_lifted (os : Os) (started : os.Started) (H : Type) (enc : TypeId × Value → H) :
    ReturnsInHanded {} Try.checked os 9 .any (Rows.blockBackSpec.pre6 enc Try.prog Try.f9 Rows.blockBackRow.domain false) (Rows.blockBackSpec.post enc Try.prog Try.f9 false true false false) :=
  lift_law (s := Rows.blockBackSpec) started _ Try.func9 (by kernel_rfl) rfl rfl Try.underlying4 rfl
    (fun ds h => match ds, h with | [_, _, _], _ => ⟨rfl, rfl, rfl⟩) (by kernel_rfl)
    (ChangeSpec.witness6 (enc := enc) (C := Try.checked) false ⟨#[], #[.slice none 0 0, .string ⟨#[]⟩, .string ⟨#[]⟩], []⟩ 8 (by kernel_rfl) (by kernel_rfl) (by kernel_rfl) (by kernel_rfl))
    (blockBack_walk H enc)

set_option maxRecDepth 100000 in
theorem blockBack_holds : Rows.BlockBackSaid :=
  OpenClaim.holds_of_wide 9 Try.f9 rfl rfl rfl rfl rfl rfl rfl ⟨rfl, rfl, rfl, rfl, rfl⟩ rfl rfl rfl rfl rfl (by kernel_rfl) Try.func9 (by kernel_rfl)
    (of_decide_eq_true (by kernel_rfl)) (by unfold Func.isWrapper; rw [if_neg (of_decide_eq_false (by kernel_rfl))]; exact ⟨rfl, rfl⟩)
    (fun os started H enc _ => blockBack_lifted os started H enc)

#print axioms blockBack_holds

end Go.Proofs.Ytfkghpomcaonfaa
