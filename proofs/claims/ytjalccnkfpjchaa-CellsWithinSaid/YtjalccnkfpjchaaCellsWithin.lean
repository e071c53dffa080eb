/-
  PROVED HERE: acreagelaw04.CellsWithin returns true at every list of cells and every range, and leaves what was there as it was. No conditions.
-/
import Derived.Test.YtjalccnkfpjchaaCellsWithinW
import Derived.Test.YtjalccnkfpjchaaOpenCells
import Derived.Test.YtjalccnkfpjchaaOpenKeys
namespace Go.Proofs.Ytjalccnkfpjchaa
open Go.ChangeShapes Go.WideShapes Go.ChangeAt Go.RowKit Go.Joins

theorem cellsWithin_walk (H : Type) (enc : TypeId × Value → H) : LawWalk H enc 7 [22, 36] := by
  intro W base args ds p hval hA hw _
  obtain ⟨v0, v1, d0, d1, p0, p1, rfl, rfl, rfl, h0, h1⟩ := trodAll_two hA
  obtain ⟨ao, len, cap, cs, rfl, hc, hok⟩ := open_cells (hval 0 _ _ rfl rfl) h0
  obtain ⟨lo, hi, rfl, _, _⟩ := open_range (hval 1 _ _ rfl rfl) h1
  have hwt := slice_weight Try.underlying22 h0 (B := reachBytes) (by
    simp only [DataW.weightsEach, List.append_nil, List.all_append, Bool.and_eq_true] at hw
    exact hw.1)
  rw [bytes_cell] at hwt
  exact cellswithin_any ao len cap cs lo hi W hc hok (Nat.le_trans hwt (by unfold reachBytes; omega))

set_option maxRecDepth 100000 in
theorem cellsWithin_lifted (os : Os) (started : os.Started) (H : Type) (enc : TypeId × Value → H) :
    ReturnsInHanded {} Try.checked os 7 .any (Rows.cellsWithinSpec.pre6 enc Try.prog Try.f7 Rows.cellsWithinRow.domain false) (Rows.cellsWithinSpec.post enc Try.prog Try.f7 false true false false) :=
  lift_law (s := Rows.cellsWithinSpec) started _ Try.func7 (by kernel_rfl) rfl rfl Try.underlying4 rfl
    (fun ds h => match ds, h with | [_, _], _ => ⟨rfl, rfl, rfl⟩) (by kernel_rfl)
    (ChangeSpec.witness6 (enc := enc) (C := Try.checked) false ⟨#[], #[.slice none 0 0, .agg #[.string ⟨#[]⟩, .string ⟨#[]⟩]], []⟩ 8 (by kernel_rfl) (by kernel_rfl) (by kernel_rfl) (by kernel_rfl))
    (cellsWithin_walk H enc)

set_option maxRecDepth 100000 in
theorem cellsWithin_holds : Rows.CellsWithinSaid :=
  OpenClaim.holds_of_wide 7 Try.f7 rfl rfl rfl rfl rfl rfl rfl ⟨rfl, rfl, rfl, rfl, rfl⟩ rfl rfl rfl rfl rfl (by kernel_rfl) Try.func7 (by kernel_rfl)
    (of_decide_eq_true (by kernel_rfl)) (by unfold Func.isWrapper; rw [if_neg (of_decide_eq_false (by kernel_rfl))]; exact ⟨rfl, rfl⟩)
    (fun os started H enc _ => cellsWithin_lifted os started H enc)

#print axioms cellsWithin_holds

end Go.Proofs.Ytjalccnkfpjchaa
