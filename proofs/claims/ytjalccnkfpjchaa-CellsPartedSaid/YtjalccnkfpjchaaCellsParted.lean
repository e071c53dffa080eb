/-
  PROVED HERE: acreagelaw04.CellsParted returns true at every list of cells and every key, and leaves what was there as it was. No conditions.
-/
import Derived.Test.YtjalccnkfpjchaaCellsPartedW
import Derived.Test.YtjalccnkfpjchaaOpenCells
import Derived.Test.YtjalccnkfpjchaaOpenKeys
namespace Go.Proofs.Ytjalccnkfpjchaa
open Go.ChangeShapes Go.WideShapes Go.ChangeAt Go.RowKit Go.Joins

theorem cellsParted_walk (H : Type) (enc : TypeId × Value → H) : LawWalk H enc 8 [22, 9] := by
  intro W base args ds p hval hA hw _
  obtain ⟨v0, v1, d0, d1, p0, p1, rfl, rfl, rfl, h0, h1⟩ := trodAll_two hA
  obtain ⟨ao, len, cap, cs, rfl, hc, hok⟩ := open_cells (hval 0 _ _ rfl rfl) h0
  obtain ⟨key, rfl, _⟩ := open_text (hval 1 _ _ rfl rfl) h1
  have hwt := slice_weight Try.underlying22 h0 (B := reachBytes) (by
    simp only [DataW.weightsEach, List.append_nil, List.all_append, Bool.and_eq_true] at hw
    exact hw.1)
  rw [bytes_cell] at hwt
  have hn : len * 64 ≤ 140737488355328 := Nat.le_trans hwt (by unfold reachBytes; omega)
  by_cases hk : key.toList = []
  · obtain rfl : key = ⟨#[]⟩ := toList_inj.1 (by rw [hk, nil_toList])
    exact parted_none ao len cap cs W hc hok hn
  · exact parted_some ao len cap cs key hk W hc hok hn

set_option maxRecDepth 100000 in
theorem cellsParted_lifted (os : Os) (started : os.Started) (H : Type) (enc : TypeId × Value → H) :
    ReturnsInHanded {} Try.checked os 8 .any (Rows.cellsPartedSpec.pre6 enc Try.prog Try.f8 Rows.cellsPartedRow.domain false) (Rows.cellsPartedSpec.post enc Try.prog Try.f8 false true false false) :=
  lift_law (s := Rows.cellsPartedSpec) started _ Try.func8 (by kernel_rfl) rfl rfl Try.underlying4 rfl
    (fun ds h => match ds, h with | [_, _], _ => ⟨rfl, rfl, rfl⟩) (by kernel_rfl)
    (ChangeSpec.witness6 (enc := enc) (C := Try.checked) false ⟨#[], #[.slice none 0 0, .string ⟨#[]⟩], []⟩ 8 (by kernel_rfl) (by kernel_rfl) (by kernel_rfl) (by kernel_rfl))
    (cellsParted_walk H enc)

set_option maxRecDepth 100000 in
theorem cellsParted_holds : Rows.CellsPartedSaid :=
  OpenClaim.holds_of_wide 8 Try.f8 rfl rfl rfl rfl rfl rfl rfl ⟨rfl, rfl, rfl, rfl, rfl⟩ rfl rfl rfl rfl rfl (by kernel_rfl) Try.func8 (by kernel_rfl)
    (of_decide_eq_true (by kernel_rfl)) (by unfold Func.isWrapper; rw [if_neg (of_decide_eq_false (by kernel_rfl))]; exact ⟨rfl, rfl⟩)
    (fun os started H enc _ => cellsParted_lifted os started H enc)

#print axioms cellsParted_holds

end Go.Proofs.Ytjalccnkfpjchaa
