/-
  PROVED HERE: acreagelaw12.MergeNewest returns true at every list of cells, and leaves what was there as it was. No conditions.
-/
import Derived.Test.YtehbikofoidjhaaNewest12W
import Derived.Test.YtehbikofoidjhaaOpenCells
namespace Go.Proofs.Ytehbikofoidjhaa
open Go.ChangeShapes Go.WideShapes Go.ChangeAt Go.RowKit Go.Joins

theorem mergeNewest_walk (H : Type) (enc : TypeId × Value → H) : LawWalk H enc 5 [29] := by
  intro W base args ds p hval hA hw _
  obtain ⟨v0, d0, rfl, rfl, h0⟩ := trodAll_one hA
  obtain ⟨ao, len, cap, cs, rfl, hc, hok⟩ := open_cells (hval 0 _ _ rfl rfl) h0
  by_cases hl : len ≤ 400
  · exact mergenewest_any ao len len cap cs W hc hl (if_neg (by omega)) (Arr.fits hc) (Arr.max hc)
  · exact mergenewest_any ao len 400 cap (cs.take 400) W (Cells.short hc (by omega)) (Nat.le_refl _) (if_pos (by omega)) (Arr.fits hc) (Arr.max hc)

set_option maxRecDepth 100000 in
theorem mergeNewest_lifted (os : Os) (started : os.Started) (H : Type) (enc : TypeId × Value → H) :
    ReturnsInHanded {} Try.checked os 5 .any (Rows.mergeNewestSpec.pre6 enc Try.prog Try.f5 Rows.mergeNewestRow.domain false) (Rows.mergeNewestSpec.post enc Try.prog Try.f5 false true false false) :=
  lift_law (s := Rows.mergeNewestSpec) started _ Try.func5 (by kernel_rfl) rfl rfl Try.underlying4 rfl
    (fun ds h => match ds, h with | [_], _ => ⟨rfl, rfl, rfl⟩) (by kernel_rfl)
    (ChangeSpec.witness6 (enc := enc) (C := Try.checked) false ⟨#[], #[.slice none 0 0], []⟩ 8 (by kernel_rfl) (by kernel_rfl) (by kernel_rfl) (by kernel_rfl))
    (mergeNewest_walk H enc)

set_option maxRecDepth 100000 in
theorem mergeNewest_holds : Rows.MergeNewestSaid :=
  OpenClaim.holds_of_wide 5 Try.f5 rfl rfl rfl rfl rfl rfl rfl ⟨rfl, rfl, rfl, rfl, rfl⟩ rfl rfl rfl rfl rfl (by kernel_rfl) Try.func5 (by kernel_rfl)
    (of_decide_eq_true (by kernel_rfl)) (by unfold Func.isWrapper; rw [if_neg (of_decide_eq_false (by kernel_rfl))]; exact ⟨rfl, rfl⟩)
    (fun os started H enc _ => mergeNewest_lifted os started H enc)

#print axioms mergeNewest_holds

end Go.Proofs.Ytehbikofoidjhaa
