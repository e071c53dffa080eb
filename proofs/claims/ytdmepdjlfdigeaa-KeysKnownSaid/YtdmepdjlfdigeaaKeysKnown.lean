/-
  PROVED HERE: acreagelaw03.KeysKnown returns true. No conditions.
-/
import Derived.Test.YtdmepdjlfdigeaaKnown3W
import Derived.Test.YtdmepdjlfdigeaaLift
namespace Go.Proofs.Ytdmepdjlfdigeaa
open Go.ChangeShapes Go.WideShapes Go.ChangeAt Go.RowKit Go.Joins

theorem keysKnown_walk (H : Type) (enc : TypeId × Value → H) : LawWalk H enc 9 [] := by
  intro W base args ds p hval hA hw _
  have hargs : args = #[] := by
    cases ds with
    | nil =>
      cases hl : args.toList with
      | nil => cases args; simp_all
      | cons a r => rw [hl] at hA; cases hA
    | cons d ds => cases hl : args.toList <;> rw [hl] at hA <;> cases hA
  subst hargs
  exact keysknown_any W

set_option maxRecDepth 100000 in
theorem keysKnown_lifted (os : Os) (started : os.Started) (H : Type) (enc : TypeId × Value → H) :
    ReturnsInHanded {} Try.checked os 9 .any (Rows.keysKnownSpec.pre6 enc Try.prog Try.f9 Rows.keysKnownRow.domain false) (Rows.keysKnownSpec.post enc Try.prog Try.f9 false true false false) :=
  lift_law (s := Rows.keysKnownSpec) started _ Try.func9 (by kernel_rfl) rfl rfl Try.underlying4 rfl
    (fun ds h => match ds, h with | [], _ => ⟨rfl, rfl, rfl⟩) (by kernel_rfl)
    (ChangeSpec.witness6 (enc := enc) (C := Try.checked) false ⟨#[], #[], []⟩ 8 (by kernel_rfl) (by kernel_rfl) (by kernel_rfl) (by kernel_rfl))
    (keysKnown_walk H enc)

set_option maxRecDepth 100000 in
theorem keysKnown_holds : Rows.KeysKnownSaid :=
  OpenClaim.holds_of_wide 9 Try.f9 rfl rfl rfl rfl rfl rfl rfl ⟨rfl, rfl, rfl, rfl, rfl⟩ rfl rfl rfl rfl rfl (by kernel_rfl) Try.func9 (by kernel_rfl)
    (of_decide_eq_true (by kernel_rfl)) (by unfold Func.isWrapper; rw [if_neg (of_decide_eq_false (by kernel_rfl))]; exact ⟨rfl, rfl⟩)
    (fun os started H enc _ => keysKnown_lifted os started H enc)

#print axioms keysKnown_holds

end Go.Proofs.Ytdmepdjlfdigeaa
