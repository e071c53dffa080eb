/-
  PROVED HERE: acreagelaw03.KeysOrder returns true at every three cells, and leaves what was there as it was. No conditions.
-/
import Derived.Test.YtdmepdjlfdigeaaOrderW
import Derived.Test.YtdmepdjlfdigeaaOpenCell
namespace Go.Proofs.Ytdmepdjlfdigeaa
open Go.ChangeShapes Go.WideShapes Go.ChangeAt Go.RowKit Go.Joins

theorem keysOrder_walk (H : Type) (enc : TypeId × Value → H) : LawWalk H enc 7 [42, 42, 42] := by
  intro W base args ds p hval hA _ _
  obtain ⟨v0, v1, v2, d0, d1, d2, p0, p1, p2, rfl, rfl, rfl, h0, h1, h2⟩ := trodAll_three hA
  obtain ⟨⟨a0, a1, a2, a3, a4⟩, rfl, _⟩ := open_cell (hval 0 _ _ rfl rfl) h0
  obtain ⟨⟨b0, b1, b2, b3, b4⟩, rfl, _⟩ := open_cell (hval 1 _ _ rfl rfl) h1
  obtain ⟨⟨c0, c1, c2, c3, c4⟩, rfl, _⟩ := open_cell (hval 2 _ _ rfl rfl) h2
  exact order_law a0 a1 a2 a3 a4 b0 b1 b2 b3 b4 c0 c1 c2 c3 c4 W

set_option maxRecDepth 100000 in
theorem keysOrder_lifted (os : Os) (started : os.Started) (H : Type) (enc : TypeId × Value → H) :
    ReturnsInHanded {} Try.checked os 7 .any (Rows.keysOrderSpec.pre6 enc Try.prog Try.f7 Rows.keysOrderRow.domain false) (Rows.keysOrderSpec.post enc Try.prog Try.f7 false true false false) :=
  lift_law (s := Rows.keysOrderSpec) started _ Try.func7 (by kernel_rfl) rfl rfl Try.underlying4 rfl
    (fun ds h => match ds, h with | [_, _, _], _ => ⟨rfl, rfl, rfl⟩) (by kernel_rfl)
    (ChangeSpec.witness6 (enc := enc) (C := Try.checked) false ⟨#[], #[.agg #[.string ⟨#[]⟩, .string ⟨#[]⟩, .int .u64 0, .bool false, .string ⟨#[]⟩], .agg #[.string ⟨#[]⟩, .string ⟨#[]⟩, .int .u64 0, .bool false, .string ⟨#[]⟩], .agg #[.string ⟨#[]⟩, .string ⟨#[]⟩, .int .u64 0, .bool false, .string ⟨#[]⟩]], []⟩ 8 (by kernel_rfl) (by kernel_rfl) (by kernel_rfl) (by kernel_rfl))
    (keysOrder_walk H enc)

set_option maxRecDepth 100000 in
theorem keysOrder_holds : Rows.KeysOrderSaid :=
  OpenClaim.holds_of_wide 7 Try.f7 rfl rfl rfl rfl rfl rfl rfl ⟨rfl, rfl, rfl, rfl, rfl⟩ rfl rfl rfl rfl rfl (by kernel_rfl) Try.func7 (by kernel_rfl)
    (of_decide_eq_true (by kernel_rfl)) (by unfold Func.isWrapper; rw [if_neg (of_decide_eq_false (by kernel_rfl))]; exact ⟨rfl, rfl⟩)
    (fun os started H enc _ => keysOrder_lifted os started H enc)

#print axioms keysOrder_holds

end Go.Proofs.Ytdmepdjlfdigeaa
