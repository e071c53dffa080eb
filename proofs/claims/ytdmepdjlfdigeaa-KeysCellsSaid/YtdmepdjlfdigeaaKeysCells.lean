/-
  PROVED HERE: acreagelaw03.KeysCells returns true at every two cells, and leaves what was there as it was. No conditions.
-/
import Derived.Test.YtdmepdjlfdigeaaCellsLawW
import Derived.Test.YtdmepdjlfdigeaaOpenCell
namespace Go.Proofs.Ytdmepdjlfdigeaa
open Go.ChangeShapes Go.WideShapes Go.ChangeAt Go.RowKit Go.Joins

theorem keysCells_walk (H : Type) (enc : TypeId × Value → H) : LawWalk H enc 8 [42, 42] := by
  intro W base args ds p hval hA _ _
  obtain ⟨v0, v1, d0, d1, p0, p1, rfl, rfl, rfl, h0, h1⟩ := trodAll_two hA
  obtain ⟨a, rfl, ha⟩ := open_cell (hval 0 _ _ rfl rfl) h0
  obtain ⟨b, rfl, _⟩ := open_cell (hval 1 _ _ rfl rfl) h1
  exact cells_law a b W ha

set_option maxRecDepth 100000 in
theorem keysCells_lifted (os : Os) (started : os.Started) (H : Type) (enc : TypeId × Value → H) :
    ReturnsInHanded {} Try.checked os 8 .any (Rows.keysCellsSpec.pre6 enc Try.prog Try.f8 Rows.keysCellsRow.domain false) (Rows.keysCellsSpec.post enc Try.prog Try.f8 false true false false) :=
  lift_law (s := Rows.keysCellsSpec) started _ Try.func8 (by kernel_rfl) rfl rfl Try.underlying4 rfl
    (fun ds h => match ds, h with | [_, _], _ => ⟨rfl, rfl, rfl⟩) (by kernel_rfl)
    (ChangeSpec.witness6 (enc := enc) (C := Try.checked) false ⟨#[], #[.agg #[.string ⟨#[]⟩, .string ⟨#[]⟩, .int .u64 0, .bool false, .string ⟨#[]⟩], .agg #[.string ⟨#[]⟩, .string ⟨#[]⟩, .int .u64 0, .bool false, .string ⟨#[]⟩]], []⟩ 8 (by kernel_rfl) (by kernel_rfl) (by kernel_rfl) (by kernel_rfl))
    (keysCells_walk H enc)

set_option maxRecDepth 100000 in
theorem keysCells_holds : Rows.KeysCellsSaid :=
  OpenClaim.holds_of_wide 8 Try.f8 rfl rfl rfl rfl rfl rfl rfl ⟨rfl, rfl, rfl, rfl, rfl⟩ rfl rfl rfl rfl rfl (by kernel_rfl) Try.func8 (by kernel_rfl)
    (of_decide_eq_true (by kernel_rfl)) (by unfold Func.isWrapper; rw [if_neg (of_decide_eq_false (by kernel_rfl))]; exact ⟨rfl, rfl⟩)
    (fun os started H enc _ => keysCells_lifted os started H enc)

#print axioms keysCells_holds

end Go.Proofs.Ytdmepdjlfdigeaa
