/-
  PROVED HERE: acreagelaw08.SkipAlike returns true at every list of cells and every two lists of heights, and leaves what was there as it was. No conditions.
-/
import Derived.Test.YtlnfdejflpgleaaAlikeW
import Derived.Test.YtlnfdejflpgleaaOpenHts
namespace Go.Proofs.Ytlnfdejflpgleaa
open Go.ChangeShapes Go.WideShapes Go.ChangeAt Go.RowKit Go.Joins

theorem skipAlike_walk (H : Type) (enc : TypeId × Value → H) : LawWalk H enc 6 [22, 23, 23] := by
  intro W base args ds p hval hA hw _
  obtain ⟨v0, v1, v2, d0, d1, d2, p0, p1, p2, rfl, rfl, rfl, h0, h1, h2⟩ := trodAll_three hA
  obtain ⟨ao, len, cap, cs, rfl, hc, hok⟩ := open_cells (hval 0 _ _ rfl rfl) h0
  obtain ⟨ao2, m2, cap2, rfl, hh2⟩ := open_hts (hval 1 _ _ rfl rfl) h1
  obtain ⟨ao3, m3, cap3, rfl, hh3⟩ := open_hts (hval 2 _ _ rfl rfl) h2
  exact skipalike_any ao ao2 ao3 len cap m2 cap2 m3 cap3 cs W hc hok hh2 hh3

set_option maxRecDepth 100000 in
theorem skipAlike_lifted (os : Os) (started : os.Started) (H : Type) (enc : TypeId × Value → H) :
    ReturnsInHanded {} Try.checked os 6 .any (Rows.skipAlikeSpec.pre6 enc Try.prog Try.f6 Rows.skipAlikeRow.domain false) (Rows.skipAlikeSpec.post enc Try.prog Try.f6 false true false false) :=
  lift_law (s := Rows.skipAlikeSpec) started _ Try.func6 (by kernel_rfl) rfl rfl Try.underlying4 rfl
    (fun ds h => match ds, h with | [_, _, _], _ => ⟨rfl, rfl, rfl⟩) (by kernel_rfl)
    (ChangeSpec.witness6 (enc := enc) (C := Try.checked) false ⟨#[], #[.slice none 0 0, .slice none 0 0, .slice none 0 0], []⟩ 8 (by kernel_rfl) (by kernel_rfl) (by kernel_rfl) (by kernel_rfl))
    (skipAlike_walk H enc)

set_option maxRecDepth 100000 in
theorem skipAlike_holds : Rows.SkipAlikeSaid :=
  OpenClaim.holds_of_wide 6 Try.f6 rfl rfl rfl rfl rfl rfl rfl ⟨rfl, rfl, rfl, rfl, rfl⟩ rfl rfl rfl rfl rfl (by kernel_rfl) Try.func6 (by kernel_rfl)
    (of_decide_eq_true (by kernel_rfl)) (by unfold Func.isWrapper; rw [if_neg (of_decide_eq_false (by kernel_rfl))]; exact ⟨rfl, rfl⟩)
    (fun os started H enc _ => skipAlike_lifted os started H enc)

#print axioms skipAlike_holds

end Go.Proofs.Ytlnfdejflpgleaa
