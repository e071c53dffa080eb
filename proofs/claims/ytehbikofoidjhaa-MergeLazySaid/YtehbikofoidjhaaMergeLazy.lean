/-
  PROVED HERE: acreagelaw12.MergeLazy returns true at every two lists of cells and every number, and leaves what was there as it was. No conditions.
-/
import Derived.Test.YtehbikofoidjhaaLzW
import Derived.Test.YtehbikofoidjhaaOpenCells
namespace Go.Proofs.Ytehbikofoidjhaa
open Go.ChangeShapes Go.WideShapes Go.ChangeAt Go.RowKit Go.Joins

theorem mergeLazy_walk (H : Type) (enc : TypeId × Value → H) : LawWalk H enc 7 [29, 29, 5] := by
  intro W base args ds p hval hA hw _
  obtain ⟨v0, v1, v2, d0, d1, d2, p0, p1, p2, rfl, rfl, rfl, h0, h1, h2⟩ := trodAll_three hA
  obtain ⟨ao, len, cap, cs, rfl, hc, _⟩ := open_cells (hval 0 _ _ rfl rfl) h0
  obtain ⟨ao2, len2, cap2, es, rfl, hc2, _⟩ := open_cells (hval 1 _ _ rfl rfl) h1
  obtain ⟨f, rfl, _, _, hf⟩ := open_int Try.underlying5 (hval 2 _ _ rfl rfl) h2
  have hf0 : 0 ≤ f ∧ f ≤ 255 := by
    simpa [Lit.wf, IntKind.min, IntKind.max, IntKind.signed, IntKind.bits] using hf
  obtain ⟨F, rfl⟩ : ∃ F : Nat, f = (F : Int) := ⟨f.toNat, by omega⟩
  exact Lz.mergelazy_any ao ao2 len cap len2 cap2 F cs es W hc hc2 (by omega)

set_option maxRecDepth 100000 in
theorem mergeLazy_lifted (os : Os) (started : os.Started) (H : Type) (enc : TypeId × Value → H) :
    ReturnsInHanded {} Try.checked os 7 .any (Rows.mergeLazySpec.pre6 enc Try.prog Try.f7 Rows.mergeLazyRow.domain false) (Rows.mergeLazySpec.post enc Try.prog Try.f7 false true false false) :=
  lift_law (s := Rows.mergeLazySpec) started _ Try.func7 (by kernel_rfl) rfl rfl Try.underlying4 rfl
    (fun ds h => match ds, h with | [_, _, _], _ => ⟨rfl, rfl, rfl⟩) (by kernel_rfl)
    (ChangeSpec.witness6 (enc := enc) (C := Try.checked) false ⟨#[], #[.slice none 0 0, .slice none 0 0, .int .u8 0], []⟩ 8 (by kernel_rfl) (by kernel_rfl) (by kernel_rfl) (by kernel_rfl))
    (mergeLazy_walk H enc)

set_option maxRecDepth 100000 in
theorem mergeLazy_holds : Rows.MergeLazySaid :=
  OpenClaim.holds_of_wide 7 Try.f7 rfl rfl rfl rfl rfl rfl rfl ⟨rfl, rfl, rfl, rfl, rfl⟩ rfl rfl rfl rfl rfl (by kernel_rfl) Try.func7 (by kernel_rfl)
    (of_decide_eq_true (by kernel_rfl)) (by unfold Func.isWrapper; rw [if_neg (of_decide_eq_false (by kernel_rfl))]; exact ⟨rfl, rfl⟩)
    (fun os started H enc _ => mergeLazy_lifted os started H enc)

#print axioms mergeLazy_holds

end Go.Proofs.Ytehbikofoidjhaa
