/-
  PROVED HERE: acreagelaw04.CellsLast returns true at every two lists of cells, and leaves what was there as it was. No conditions.
-/
import Derived.Test.YtjalccnkfpjchaaCellsLastW
import Derived.Test.YtjalccnkfpjchaaOpenCells
import Derived.Test.YtjalccnkfpjchaaOpenKeys
namespace Go.Proofs.Ytjalccnkfpjchaa
open Go.ChangeShapes Go.WideShapes Go.ChangeAt Go.RowKit Go.Joins

theorem cellsLast_walk (H : Type) (enc : TypeId × Value → H) : LawWalk H enc 5 [22, 22] := by
  intro W base args ds p hval hA hw _
  obtain ⟨v0, v1, d0, d1, p0, p1, rfl, rfl, rfl, h0, h1⟩ := trodAll_two hA
  obtain ⟨ao, len, cap, cs, rfl, hc, _⟩ := open_cells (hval 0 _ _ rfl rfl) h0
  obtain ⟨ao2, len2, cap2, es, rfl, hc2, _⟩ := open_cells (hval 1 _ _ rfl rfl) h1
  by_cases hl : len ≤ 150
  · by_cases hl2 : len2 ≤ 150
    · exact cellslast_ll ao ao2 len len2 cap cap2 cs es W hc hc2 hl hl2
    · exact cellslast_lg ao ao2 len len2 cap cap2 cs (es.take 150) W hc (Cells.short hc2 (by omega)) hl (by omega) (Arr.fits hc2)
  · by_cases hl2 : len2 ≤ 150
    · exact cellslast_gl ao ao2 len len2 cap cap2 (cs.take 150) es W (Cells.short hc (by omega)) hc2 (by omega) (Arr.fits hc) hl2
    · exact cellslast_gg ao ao2 len len2 cap cap2 (cs.take 150) (es.take 150) W (Cells.short hc (by omega)) (Cells.short hc2 (by omega)) (by omega) (Arr.fits hc) (by omega) (Arr.fits hc2)

set_option maxRecDepth 100000 in
theorem cellsLast_lifted (os : Os) (started : os.Started) (H : Type) (enc : TypeId × Value → H) :
    ReturnsInHanded {} Try.checked os 5 .any (Rows.cellsLastSpec.pre6 enc Try.prog Try.f5 Rows.cellsLastRow.domain false) (Rows.cellsLastSpec.post enc Try.prog Try.f5 false true false false) :=
  lift_law (s := Rows.cellsLastSpec) started _ Try.func5 (by kernel_rfl) rfl rfl Try.underlying4 rfl
    (fun ds h => match ds, h with | [_, _], _ => ⟨rfl, rfl, rfl⟩) (by kernel_rfl)
    (ChangeSpec.witness6 (enc := enc) (C := Try.checked) false ⟨#[], #[.slice none 0 0, .slice none 0 0], []⟩ 8 (by kernel_rfl) (by kernel_rfl) (by kernel_rfl) (by kernel_rfl))
    (cellsLast_walk H enc)

set_option maxRecDepth 100000 in
theorem cellsLast_holds : Rows.CellsLastSaid :=
  OpenClaim.holds_of_wide 5 Try.f5 rfl rfl rfl rfl rfl rfl rfl ⟨rfl, rfl, rfl, rfl, rfl⟩ rfl rfl rfl rfl rfl (by kernel_rfl) Try.func5 (by kernel_rfl)
    (of_decide_eq_true (by kernel_rfl)) (by unfold Func.isWrapper; rw [if_neg (of_decide_eq_false (by kernel_rfl))]; exact ⟨rfl, rfl⟩)
    (fun os started H enc _ => cellsLast_lifted os started H enc)

#print axioms cellsLast_holds

end Go.Proofs.Ytjalccnkfpjchaa
