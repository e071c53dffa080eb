/-
  PROVED HERE: acreagelaw12.MergeKnown returns true. No conditions.
-/
import Derived.Test.YtehbikofoidjhaaKnown12W
import Derived.Test.YtehbikofoidjhaaLift
namespace Go.Proofs.Ytehbikofoidjhaa
open Go.ChangeShapes Go.WideShapes Go.ChangeAt Go.RowKit Go.Joins

theorem mergeKnown_walk (H : Type) (enc : TypeId × Value → H) : LawWalk H enc 6 [] := by
  intro W base args ds p hval hA hw _
  have hargs : args = #[] := by
    cases ds with
    | nil =>
      cases hl : args.toList with
      | nil => cases args; simp_all
      | cons a r => rw [hl] at hA; cases hA
    | cons d ds => cases hl : args.toList <;> rw [hl] at hA <;> cases hA
  subst hargs
  exact mergeknown_any W

set_option maxRecDepth 100000 in
theorem mergeKnown_lifted (os : Os) (started : os.Started) (H : Type) (enc : TypeId × Value → H) :
    ReturnsInHanded {} Try.checked os 6 .any (Rows.mergeKnownSpec.pre6 enc Try.prog Try.f6 Rows.mergeKnownRow.domain false) (Rows.mergeKnownSpec.post enc Try.prog Try.f6 false true false false) :=
  lift_law (s := Rows.mergeKnownSpec) started _ Try.func6 (by kernel_rfl) rfl rfl Try.underlying4 rfl
    (fun ds h => match ds, h with | [], _ => ⟨rfl, rfl, rfl⟩) (by kernel_rfl)
    (ChangeSpec.witness6 (enc := enc) (C := Try.checked) false ⟨#[], #[], []⟩ 8 (by kernel_rfl) (by kernel_rfl) (by kernel_rfl) (by kernel_rfl))
    (mergeKnown_walk H enc)

set_option maxRecDepth 100000 in
theorem mergeKnown_holds : Rows.MergeKnownSaid :=
  OpenClaim.holds_of_wide 6 Try.f6 rfl rfl rfl rfl rfl rfl rfl ⟨rfl, rfl, rfl, rfl, rfl⟩ rfl rfl rfl rfl rfl (by kernel_rfl) Try.func6 (by kernel_rfl)
    (of_decide_eq_true (by kernel_rfl)) (by unfold Func.isWrapper; rw [if_neg (of_decide_eq_false (by kernel_rfl))]; exact ⟨rfl, rfl⟩)
    (fun os started H enc _ => mergeKnown_lifted os started H enc)

#print axioms mergeKnown_holds

end Go.Proofs.Ytehbikofoidjhaa
