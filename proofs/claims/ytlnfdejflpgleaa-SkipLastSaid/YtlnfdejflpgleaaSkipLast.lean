/-
  PROVED HERE: acreagelaw08.SkipLast returns true at every list of cells and every list of heights, and leaves what was there as it was. No conditions.
-/
import Derived.Test.YtlnfdejflpgleaaLast8W
import Derived.Test.YtlnfdejflpgleaaOpenHts
namespace Go.Proofs.Ytlnfdejflpgleaa
open Go.ChangeShapes Go.WideShapes Go.ChangeAt Go.RowKit Go.Joins

theorem skipLast_walk (H : Type) (enc : TypeId × Value → H) : LawWalk H enc 7 [22, 23] := by
  intro W base args ds p hval hA hw _
  obtain ⟨v0, v1, d0, d1, p0, p1, rfl, rfl, rfl, h0, h1⟩ := trodAll_two hA
  obtain ⟨ao, len, cap, cs, rfl, hc, hok⟩ := open_cells (hval 0 _ _ rfl rfl) h0
  obtain ⟨ao2, m2, cap2, rfl, hh2⟩ := open_hts (hval 1 _ _ rfl rfl) h1
  exact skiplast_any ao ao2 len cap m2 cap2 cs W hc hok hh2

set_option maxRecDepth 100000 in
theorem skipLast_lifted (os : Os) (started : os.Started) (H : Type) (enc : TypeId × Value → H) :
    ReturnsInHanded {} Try.checked os 7 .any (Rows.skipLastSpec.pre6 enc Try.prog Try.f7 Rows.skipLastRow.domain false) (Rows.skipLastSpec.post enc Try.prog Try.f7 false true false false) :=
  lift_law (s := Rows.skipLastSpec) started _ Try.func7 (by kernel_rfl) rfl rfl Try.underlying4 rfl
    (fun ds h => match ds, h with | [_, _], _ => ⟨rfl, rfl, rfl⟩) (by kernel_rfl)
    (ChangeSpec.witness6 (enc := enc) (C := Try.checked) false ⟨#[], #[.slice none 0 0, .slice none 0 0], []⟩ 8 (by kernel_rfl) (by kernel_rfl) (by kernel_rfl) (by kernel_rfl))
    (skipLast_walk H enc)

set_option maxRecDepth 100000 in
theorem skipLast_holds : Rows.SkipLastSaid :=
  OpenClaim.holds_of_wide 7 Try.f7 rfl rfl rfl rfl rfl rfl rfl ⟨rfl, rfl, rfl, rfl, rfl⟩ rfl rfl rfl rfl rfl (by kernel_rfl) Try.func7 (by kernel_rfl)
    (of_decide_eq_true (by kernel_rfl)) (by unfold Func.isWrapper; rw [if_neg (of_decide_eq_false (by kernel_rfl))]; exact ⟨rfl, rfl⟩)
    (fun os started H enc _ => skipLast_lifted os started H enc)

#print axioms skipLast_holds

end Go.Proofs.Ytlnfdejflpgleaa
