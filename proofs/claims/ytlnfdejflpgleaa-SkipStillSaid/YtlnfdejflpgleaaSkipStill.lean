/-
  PROVED HERE: acreagelaw08.SkipStill returns true at every list of cells, every list of heights and every cell, and leaves what was there as it was. No conditions.
-/
import Derived.Test.YtlnfdejflpgleaaStillW
import Derived.Test.YtlnfdejflpgleaaOpenHts
import Derived.Test.YtlnfdejflpgleaaOpenCell1
namespace Go.Proofs.Ytlnfdejflpgleaa
open Go.ChangeShapes Go.WideShapes Go.ChangeAt Go.RowKit Go.Joins

theorem skipStill_walk (H : Type) (enc : TypeId × Value → H) : LawWalk H enc 3 [22, 23, 26] := by
  intro W base args ds p hval hA hw _
  obtain ⟨v0, v1, v2, d0, d1, d2, p0, p1, p2, rfl, rfl, rfl, h0, h1, h2⟩ := trodAll_three hA
  obtain ⟨ao, len, cap, cs, rfl, hc, hok⟩ := open_cells (hval 0 _ _ rfl rfl) h0
  obtain ⟨ao2, m2, cap2, rfl, hh2⟩ := open_hts (hval 1 _ _ rfl rfl) h1
  obtain ⟨c, rfl, hcok⟩ := open_cell (hval 2 _ _ rfl rfl) h2
  exact skipstill_any ao ao2 len cap m2 cap2 cs c W hc hok hh2 hcok

set_option maxRecDepth 100000 in
theorem skipStill_lifted (os : Os) (started : os.Started) (H : Type) (enc : TypeId × Value → H) :
    ReturnsInHanded {} Try.checked os 3 .any (Rows.skipStillSpec.pre6 enc Try.prog Try.f3 Rows.skipStillRow.domain false) (Rows.skipStillSpec.post enc Try.prog Try.f3 false true false false) :=
  lift_law (s := Rows.skipStillSpec) started _ Try.func3 (by kernel_rfl) rfl rfl Try.underlying4 rfl
    (fun ds h => match ds, h with | [_, _, _], _ => ⟨rfl, rfl, rfl⟩) (by kernel_rfl)
    (ChangeSpec.witness6 (enc := enc) (C := Try.checked) false ⟨#[], #[.slice none 0 0, .slice none 0 0, .agg #[.string ⟨#[]⟩, .string ⟨#[]⟩, .int .u64 0, .bool false, .string ⟨#[]⟩]], []⟩ 8 (by kernel_rfl) (by kernel_rfl) (by kernel_rfl) (by kernel_rfl))
    (skipStill_walk H enc)

set_option maxRecDepth 100000 in
theorem skipStill_holds : Rows.SkipStillSaid :=
  OpenClaim.holds_of_wide 3 Try.f3 rfl rfl rfl rfl rfl rfl rfl ⟨rfl, rfl, rfl, rfl, rfl⟩ rfl rfl rfl rfl rfl (by kernel_rfl) Try.func3 (by kernel_rfl)
    (of_decide_eq_true (by kernel_rfl)) (by unfold Func.isWrapper; rw [if_neg (of_decide_eq_false (by kernel_rfl))]; exact ⟨rfl, rfl⟩)
    (fun os started H enc _ => skipStill_lifted os started H enc)

#print axioms skipStill_holds

end Go.Proofs.Ytlnfdejflpgleaa
