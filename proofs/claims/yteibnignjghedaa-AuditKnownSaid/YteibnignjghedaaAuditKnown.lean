/-
  PROVED HERE: acreagelaw32.AuditKnown returns true. No conditions.
-/
import Derived.Test.YteibnignjghedaaAudK1
import Derived.Test.YteibnignjghedaaLift
namespace Go.Proofs.Yteibnignjghedaa
open Go.ChangeShapes Go.WideShapes Go.ChangeAt Go.RowKit Go.Joins

set_option maxRecDepth 100000 in
theorem auditKnown_walk (H : Type) (enc : TypeId × Value → H) : LawWalk H enc 7 [] := by
  intro W base args ds p hval hA hw _
  have hargs : args = #[] := by
    cases ds with
    | nil =>
      cases hl : args.toList with
      | nil => cases args; simp_all
      | cons a r => rw [hl] at hA; cases hA
    | cons d ds => cases hl : args.toList <;> rw [hl] at hA <;> cases hA
  subst hargs
  exact known_any W

set_option maxRecDepth 100000 in
theorem auditKnown_lifted (os : Os) (started : os.Started) (H : Type) (enc : TypeId × Value → H) :
    ReturnsInHanded {} Try.checked os 7 .any (Rows.auditKnownSpec.pre6 enc Try.prog Try.f7 Rows.auditKnownRow.domain false) (Rows.auditKnownSpec.post enc Try.prog Try.f7 false true false false) :=
  lift_law (s := Rows.auditKnownSpec) started _ Try.func7 (by kernel_rfl) rfl rfl Try.underlying4 rfl
    (fun ds h => match ds, h with | [], _ => ⟨rfl, rfl, rfl⟩) (by kernel_rfl)
    (ChangeSpec.witness6 (enc := enc) (C := Try.checked) false ⟨#[], #[], []⟩ 8 (by kernel_rfl) (by kernel_rfl) (by kernel_rfl) (by kernel_rfl))
    (auditKnown_walk H enc)

set_option maxRecDepth 100000 in
theorem auditKnown_holds : Rows.AuditKnownSaid :=
  OpenClaim.holds_of_wide 7 Try.f7 rfl rfl rfl rfl rfl rfl rfl ⟨rfl, rfl, rfl, rfl, rfl⟩ rfl rfl rfl rfl rfl (by kernel_rfl) Try.func7 (by kernel_rfl)
    (of_decide_eq_true (by kernel_rfl)) (by unfold Func.isWrapper; rw [if_neg (of_decide_eq_false (by kernel_rfl))]; exact ⟨rfl, rfl⟩)
    (fun os started H enc _ => auditKnown_lifted os started H enc)

#print axioms auditKnown_holds

end Go.Proofs.Yteibnignjghedaa
