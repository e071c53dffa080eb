/-
  PROVED HERE: acreagelaw04.CellsOrder returns true at every list of cells, and leaves what was there as it was. No conditions.
-/
import Derived.Test.YtjalccnkfpjchaaCellsOrderW
import Derived.Test.YtjalccnkfpjchaaOpenCells
import Derived.Test.YtjalccnkfpjchaaOpenKeys
namespace Go.Proofs.Ytjalccnkfpjchaa
open Go.ChangeShapes Go.WideShapes Go.ChangeAt Go.RowKit Go.Joins

theorem cellsOrder_walk (H : Type) (enc : TypeId × Value → H) : LawWalk H enc 4 [22] := by
  intro W base args ds p hval hA hw _
  obtain ⟨v0, d0, rfl, rfl, h0⟩ := trodAll_one hA
  obtain ⟨ao, len, cap, cs, rfl, hc, hok⟩ := open_cells (hval 0 _ _ rfl rfl) h0
  by_cases hl : len ≤ 300
  · exact cellsorder_any ao len len cap cs W hc hl (if_pos hl) (Arr.fits hc) (Arr.max hc)
  · exact cellsorder_any ao len 300 cap (cs.take 300) W (Cells.short hc (by omega)) (Nat.le_refl _) (if_neg hl) (Arr.fits hc) (Arr.max hc)

set_option maxRecDepth 100000 in
theorem cellsOrder_lifted (os : Os) (started : os.Started) (H : Type) (enc : TypeId × Value → H) :
    ReturnsInHanded {} Try.checked os 4 .any (Rows.cellsOrderSpec.pre6 enc Try.prog Try.f4 Rows.cellsOrderRow.domain false) (Rows.cellsOrderSpec.post enc Try.prog Try.f4 false true false false) :=
  lift_law (s := Rows.cellsOrderSpec) started _ Try.func4 (by kernel_rfl) rfl rfl Try.underlying4 rfl
    (fun ds h => match ds, h with | [_], _ => ⟨rfl, rfl, rfl⟩) (by kernel_rfl)
    (ChangeSpec.witness6 (enc := enc) (C := Try.checked) false ⟨#[], #[.slice none 0 0], []⟩ 8 (by kernel_rfl) (by kernel_rfl) (by kernel_rfl) (by kernel_rfl))
    (cellsOrder_walk H enc)

set_option maxRecDepth 100000 in
theorem cellsOrder_holds : Rows.CellsOrderSaid :=
  OpenClaim.holds_of_wide 4 Try.f4 rfl rfl rfl rfl rfl rfl rfl ⟨rfl, rfl, rfl, rfl, rfl⟩ rfl rfl rfl rfl rfl (by kernel_rfl) Try.func4 (by kernel_rfl)
    (of_decide_eq_true (by kernel_rfl)) (by unfold Func.isWrapper; rw [if_neg (of_decide_eq_false (by kernel_rfl))]; exact ⟨rfl, rfl⟩)
    (fun os started H enc _ => cellsOrder_lifted os started H enc)

#print axioms cellsOrder_holds

end Go.Proofs.Ytjalccnkfpjchaa
