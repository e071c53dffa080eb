/-
  PROVED HERE: acreagelaw12.MergeLists returns true at every list of cells and every number, and leaves what was there as it was. No conditions.
-/
import Derived.Test.YtehbikofoidjhaaListsW
import Derived.Test.YtehbikofoidjhaaOpenCells
namespace Go.Proofs.Ytehbikofoidjhaa
open Go.ChangeShapes Go.WideShapes Go.ChangeAt Go.RowKit Go.Joins

theorem mergeLists_walk (H : Type) (enc : TypeId × Value → H) : LawWalk H enc 4 [29, 3] := by
  intro W base args ds p hval hA hw _
  obtain ⟨v0, v1, d0, d1, p0, p1, rfl, rfl, rfl, h0, h1⟩ := trodAll_two hA
  obtain ⟨ao, len, cap, cs, rfl, hc, hok⟩ := open_cells (hval 0 _ _ rfl rfl) h0
  obtain ⟨most, rfl, _⟩ := open_int Try.underlying3 (hval 1 _ _ rfl rfl) h1
  have hwt := slice_weight Try.underlying29 h0 (B := reachBytes) (by
    simp only [DataW.weightsEach, List.append_nil, List.all_append, Bool.and_eq_true] at hw
    exact hw.1)
  rw [bytes_cell] at hwt
  exact mergelists_any ao len cap cs most W hc (Nat.le_trans hwt (by unfold reachBytes; omega))

set_option maxRecDepth 100000 in
theorem mergeLists_lifted (os : Os) (started : os.Started) (H : Type) (enc : TypeId × Value → H) :
    ReturnsInHanded {} Try.checked os 4 .any (Rows.mergeListsSpec.pre6 enc Try.prog Try.f4 Rows.mergeListsRow.domain false) (Rows.mergeListsSpec.post enc Try.prog Try.f4 false true false false) :=
  lift_law (s := Rows.mergeListsSpec) started _ Try.func4 (by kernel_rfl) rfl rfl Try.underlying4 rfl
    (fun ds h => match ds, h with | [_, _], _ => ⟨rfl, rfl, rfl⟩) (by kernel_rfl)
    (ChangeSpec.witness6 (enc := enc) (C := Try.checked) false ⟨#[], #[.slice none 0 0, .int .i64 0], []⟩ 8 (by kernel_rfl) (by kernel_rfl) (by kernel_rfl) (by kernel_rfl))
    (mergeLists_walk H enc)

set_option maxRecDepth 100000 in
theorem mergeLists_holds : Rows.MergeListsSaid :=
  OpenClaim.holds_of_wide 4 Try.f4 rfl rfl rfl rfl rfl rfl rfl ⟨rfl, rfl, rfl, rfl, rfl⟩ rfl rfl rfl rfl rfl (by kernel_rfl) Try.func4 (by kernel_rfl)
    (of_decide_eq_true (by kernel_rfl)) (by unfold Func.isWrapper; rw [if_neg (of_decide_eq_false (by kernel_rfl))]; exact ⟨rfl, rfl⟩)
    (fun os started H enc _ => mergeLists_lifted os started H enc)

#print axioms mergeLists_holds

end Go.Proofs.Ytehbikofoidjhaa
