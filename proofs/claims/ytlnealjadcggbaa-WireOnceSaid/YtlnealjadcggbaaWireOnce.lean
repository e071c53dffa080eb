/-
  PROVED HERE: acreagelaw01.WireOnce returns true at every string, and leaves what was there as it was. No conditions.
-/
import Derived.Test.YtlnealjadcggbaaWireOnceW
import Derived.Test.YtlnealjadcggbaaOpenSlice
namespace Go.Proofs.Ytlnealjadcggbaa
open Go.ChangeShapes Go.WideShapes Go.ChangeAt Go.RowKit Go.Joins
open Go.ChangeMaps (open_string)

theorem wireOnce_walk (H : Type) (enc : TypeId × Value → H) : LawWalk H enc 4 [9] := by
  intro W base args ds p hval hA _ _
  obtain ⟨v0, d0, rfl, rfl, h0⟩ := trodAll_one hA
  obtain ⟨s, rfl, _, _, hb⟩ := open_string Try.underlying9 (hval 0 _ _ rfl rfl) h0
  exact once_any s W hb

set_option maxRecDepth 100000 in
theorem wireOnce_lifted (os : Os) (started : os.Started) (H : Type) (enc : TypeId × Value → H) :
    ReturnsInHanded {} Try.checked os 4 .any (Rows.wireOnceSpec.pre6 enc Try.prog Try.f4 Rows.wireOnceRow.domain false) (Rows.wireOnceSpec.post enc Try.prog Try.f4 false true false false) :=
  lift_law (s := Rows.wireOnceSpec) started _ Try.func4 (by kernel_rfl) rfl rfl Try.underlying4 rfl
    (fun ds h => match ds, h with | [_], _ => ⟨rfl, rfl, rfl⟩) (by kernel_rfl)
    (ChangeSpec.witness6 (enc := enc) (C := Try.checked) false ⟨#[], #[.string ⟨#[]⟩], []⟩ 8 (by kernel_rfl) (by kernel_rfl) (by kernel_rfl) (by kernel_rfl))
    (wireOnce_walk H enc)

set_option maxRecDepth 100000 in
theorem wireOnce_holds : Rows.WireOnceSaid :=
  OpenClaim.holds_of_wide 4 Try.f4 rfl rfl rfl rfl rfl rfl rfl ⟨rfl, rfl, rfl, rfl, rfl⟩ rfl rfl rfl rfl rfl (by kernel_rfl) Try.func4 (by kernel_rfl)
    (of_decide_eq_true (by kernel_rfl)) (by unfold Func.isWrapper; rw [if_neg (of_decide_eq_false (by kernel_rfl))]; exact ⟨rfl, rfl⟩)
    (fun os started H enc _ => wireOnce_lifted os started H enc)

#print axioms wireOnce_holds

end Go.Proofs.Ytlnealjadcggbaa
