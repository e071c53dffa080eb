/-
  PROVED HERE: acreagelaw08.SkipKnown returns true. No conditions.
-/
import Derived.Test.YtlnfdejflpgleaaKnown8W
import Derived.Test.YtlnfdejflpgleaaLift
namespace Go.Proofs.Ytlnfdejflpgleaa
open Go.ChangeShapes Go.WideShapes Go.ChangeAt Go.RowKit Go.Joins

theorem skipKnown_walk (H : Type) (enc : TypeId × Value → H) : LawWalk H enc 5 [] := by
  intro W base args ds p hval hA hw _
  have hargs : args = #[] := by
    cases ds with
    | nil =>
      cases hl : args.toList with
      | nil => cases args; simp_all
      | cons a r => rw [hl] at hA; cases hA
    | cons d ds => cases hl : args.toList <;> rw [hl] at hA <;> cases hA
  subst hargs
  exact skipknown_any W

set_option maxRecDepth 100000 in
theorem skipKnown_lifted (os : Os) (started : os.Started) (H : Type) (enc : TypeId × Value → H) :
    ReturnsInHanded {} Try.checked os 5 .any (Rows.skipKnownSpec.pre6 enc Try.prog Try.f5 Rows.skipKnownRow.domain false) (Rows.skipKnownSpec.post enc Try.prog Try.f5 false true false false) :=
  lift_law (s := Rows.skipKnownSpec) started _ Try.func5 (by kernel_rfl) rfl rfl Try.underlying4 rfl
    (fun ds h => match ds, h with | [], _ => ⟨rfl, rfl, rfl⟩) (by kernel_rfl)
    (ChangeSpec.witness6 (enc := enc) (C := Try.checked) false ⟨#[], #[], []⟩ 8 (by kernel_rfl) (by kernel_rfl) (by kernel_rfl) (by kernel_rfl))
    (skipKnown_walk H enc)

set_option maxRecDepth 100000 in
theorem skipKnown_holds : Rows.SkipKnownSaid :=
  OpenClaim.holds_of_wide 5 Try.f5 rfl rfl rfl rfl rfl rfl rfl ⟨rfl, rfl, rfl, rfl, rfl⟩ rfl rfl rfl rfl rfl (by kernel_rfl) Try.func5 (by kernel_rfl)
    (of_decide_eq_true (by kernel_rfl)) (by unfold Func.isWrapper; rw [if_neg (of_decide_eq_false (by kernel_rfl))]; exact ⟨rfl, rfl⟩)
    (fun os started H enc _ => skipKnown_lifted os started H enc)

#print axioms skipKnown_holds

end Go.Proofs.Ytlnfdejflpgleaa
