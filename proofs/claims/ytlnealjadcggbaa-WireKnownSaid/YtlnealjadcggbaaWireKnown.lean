/-
  PROVED HERE: acreagelaw01.WireKnown returns true, and leaves what was there as it was. No conditions.
-/
import Derived.Test.YtlnealjadcggbaaWireKnownW
import Derived.Test.YtlnealjadcggbaaOpenSlice
namespace Go.Proofs.Ytlnealjadcggbaa
open Go.ChangeShapes Go.WideShapes Go.ChangeAt Go.RowKit Go.Joins

theorem wireKnown_walk (H : Type) (enc : TypeId × Value → H) : LawWalk H enc 6 [] := by
  intro W base args ds p hval hA _ _
  obtain ⟨rfl, rfl, rfl⟩ : args = #[] ∧ ds = [] ∧ p = [] := by
    have := trodAll_nil hA
    refine ⟨?_, this.2.1, this.2.2⟩
    cases args; simp_all
  exact known_any W

set_option maxRecDepth 100000 in
theorem wireKnown_lifted (os : Os) (started : os.Started) (H : Type) (enc : TypeId × Value → H) :
    ReturnsInHanded {} Try.checked os 6 .any (Rows.wireKnownSpec.pre6 enc Try.prog Try.f6 Rows.wireKnownRow.domain false) (Rows.wireKnownSpec.post enc Try.prog Try.f6 false true false false) :=
  lift_law (s := Rows.wireKnownSpec) started _ Try.func6 (by kernel_rfl) rfl rfl Try.underlying4 rfl
    (fun ds h => match ds, h with | [], _ => ⟨rfl, rfl, rfl⟩) (by kernel_rfl)
    (ChangeSpec.witness6 (enc := enc) (C := Try.checked) false ⟨#[], #[], []⟩ 8 (by kernel_rfl) (by kernel_rfl) (by kernel_rfl) (by kernel_rfl))
    (wireKnown_walk H enc)

set_option maxRecDepth 100000 in
theorem wireKnown_holds : Rows.WireKnownSaid :=
  OpenClaim.holds_of_wide 6 Try.f6 rfl rfl rfl rfl rfl rfl rfl ⟨rfl, rfl, rfl, rfl, rfl⟩ rfl rfl rfl rfl rfl (by kernel_rfl) Try.func6 (by kernel_rfl)
    (of_decide_eq_true (by kernel_rfl)) (by unfold Func.isWrapper; rw [if_neg (of_decide_eq_false (by kernel_rfl))]; exact ⟨rfl, rfl⟩)
    (fun os started H enc _ => wireKnown_lifted os started H enc)

#print axioms wireKnown_holds

end Go.Proofs.Ytlnealjadcggbaa
