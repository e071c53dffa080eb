/-
  PROVED HERE: acreagelaw04.CellsSorts returns true at every list of cells, and leaves what was there as it was. No conditions.
-/
import Derived.Test.YtjalccnkfpjchaaCellsSortsW
import Derived.Test.YtjalccnkfpjchaaOpenCells
import Derived.Test.YtjalccnkfpjchaaOpenKeys
namespace Go.Proofs.Ytjalccnkfpjchaa
open Go.ChangeShapes Go.WideShapes Go.ChangeAt Go.RowKit Go.Joins

theorem cellsSorts_walk (H : Type) (enc : TypeId × Value → H) : LawWalk H enc 6 [22] := by
  intro W base args ds p hval hA hw _
  obtain ⟨v0, d0, rfl, rfl, h0⟩ := trodAll_one hA
  obtain ⟨ao, len, cap, cs, rfl, hc, hok⟩ := open_cells (hval 0 _ _ rfl rfl) h0
  by_cases hl : len ≤ 400
  · exact cellssorts_any ao len len cap cs W hc hok hl (if_pos hl) (Arr.fits hc) (Arr.max hc)
  · exact cellssorts_any ao len 400 cap (cs.take 400) W (Cells.short hc (by omega)) (fun c h => hok c (List.mem_of_mem_take h)) (Nat.le_refl _) (if_neg hl) (Arr.fits hc) (Arr.max hc)

set_option maxRecDepth 100000 in
theorem cellsSorts_lifted (os : Os) (started : os.Started) (H : Type) (enc : TypeId × Value → H) :
    ReturnsInHanded {} Try.checked os 6 .any (Rows.cellsSortsSpec.pre6 enc Try.prog Try.f6 Rows.cellsSortsRow.domain false) (Rows.cellsSortsSpec.post enc Try.prog Try.f6 false true false false) :=
  lift_law (s := Rows.cellsSortsSpec) started _ Try.func6 (by kernel_rfl) rfl rfl Try.underlying4 rfl
    (fun ds h => match ds, h with | [_], _ => ⟨rfl, rfl, rfl⟩) (by kernel_rfl)
    (ChangeSpec.witness6 (enc := enc) (C := Try.checked) false ⟨#[], #[.slice none 0 0], []⟩ 8 (by kernel_rfl) (by kernel_rfl) (by kernel_rfl) (by kernel_rfl))
    (cellsSorts_walk H enc)

set_option maxRecDepth 100000 in
theorem cellsSorts_holds : Rows.CellsSortsSaid :=
  OpenClaim.holds_of_wide 6 Try.f6 rfl rfl rfl rfl rfl rfl rfl ⟨rfl, rfl, rfl, rfl, rfl⟩ rfl rfl rfl rfl rfl (by kernel_rfl) Try.func6 (by kernel_rfl)
    (of_decide_eq_true (by kernel_rfl)) (by unfold Func.isWrapper; rw [if_neg (of_decide_eq_false (by kernel_rfl))]; exact ⟨rfl, rfl⟩)
    (fun os started H enc _ => cellsSorts_lifted os started H enc)

#print axioms cellsSorts_holds

end Go.Proofs.Ytjalccnkfpjchaa
