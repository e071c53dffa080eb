/-
  PROVED HERE: acreagelaw04.CellsKnown returns true. No conditions.
-/
import Derived.Test.YtjalccnkfpjchaaKnown4W
import Derived.Test.YtjalccnkfpjchaaLift
namespace Go.Proofs.Ytjalccnkfpjchaa
open Go.ChangeShapes Go.WideShapes Go.ChangeAt Go.RowKit Go.Joins

theorem cellsKnown_walk (H : Type) (enc : TypeId × Value → H) : LawWalk H enc 12 [] := by
  intro W base args ds p hval hA hw _
  have hargs : args = #[] := by
    cases ds with
    | nil =>
      cases hl : args.toList with
      | nil => cases args; simp_all
      | cons a r => rw [hl] at hA; cases hA
    | cons d ds => cases hl : args.toList <;> rw [hl] at hA <;> cases hA
  subst hargs
  exact cellsknown_any W

set_option maxRecDepth 100000 in
theorem cellsKnown_lifted (os : Os) (started : os.Started) (H : Type) (enc : TypeId × Value → H) :
    ReturnsInHanded {} Try.checked os 12 .any (Rows.cellsKnownSpec.pre6 enc Try.prog Try.f12 Rows.cellsKnownRow.domain false) (Rows.cellsKnownSpec.post enc Try.prog Try.f12 false true false false) :=
  lift_law (s := Rows.cellsKnownSpec) started _ Try.func12 (by kernel_rfl) rfl rfl Try.underlying4 rfl
    (fun ds h => match ds, h with | [], _ => ⟨rfl, rfl, rfl⟩) (by kernel_rfl)
    (ChangeSpec.witness6 (enc := enc) (C := Try.checked) false ⟨#[], #[], []⟩ 8 (by kernel_rfl) (by kernel_rfl) (by kernel_rfl) (by kernel_rfl))
    (cellsKnown_walk H enc)

set_option maxRecDepth 100000 in
theorem cellsKnown_holds : Rows.CellsKnownSaid :=
  OpenClaim.holds_of_wide 12 Try.f12 rfl rfl rfl rfl rfl rfl rfl ⟨rfl, rfl, rfl, rfl, rfl⟩ rfl rfl rfl rfl rfl (by kernel_rfl) Try.func12 (by kernel_rfl)
    (of_decide_eq_true (by kernel_rfl)) (by unfold Func.isWrapper; rw [if_neg (of_decide_eq_false (by kernel_rfl))]; exact ⟨rfl, rfl⟩)
    (fun os started H enc _ => cellsKnown_lifted os started H enc)

#print axioms cellsKnown_holds

end Go.Proofs.Ytjalccnkfpjchaa
