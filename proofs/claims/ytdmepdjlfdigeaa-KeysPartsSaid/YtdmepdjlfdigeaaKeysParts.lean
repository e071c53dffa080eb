/-
  PROVED HERE: acreagelaw03.KeysParts returns true at every range, key and text, and leaves what was there as it was. No conditions.
-/
import Derived.Test.YtdmepdjlfdigeaaPartsW
import Derived.Test.YtdmepdjlfdigeaaOpenKeys
namespace Go.Proofs.Ytdmepdjlfdigeaa
open Go.ChangeShapes Go.WideShapes Go.ChangeAt Go.RowKit Go.Joins

theorem keysParts_walk (H : Type) (enc : TypeId × Value → H) : LawWalk H enc 3 [23, 9, 9] := by
  intro W base args ds p hval hA _ _
  obtain ⟨v0, v1, v2, d0, d1, d2, p0, p1, p2, rfl, rfl, rfl, h0, h1, h2⟩ := trodAll_three hA
  obtain ⟨lo, hi, rfl, hl, hh⟩ := open_range (hval 0 _ _ rfl rfl) h0
  obtain ⟨key, rfl, hk⟩ := open_text (hval 1 _ _ rfl rfl) h1
  obtain ⟨text, rfl, _⟩ := open_text (hval 2 _ _ rfl rfl) h2
  by_cases hs : splitL lo.toList hi.toList key.toList = true
  · exact parts_yes lo hi key text W hl hh hk hs
  · exact parts_no lo hi key text W hl hh hk (by simpa using hs)

set_option maxRecDepth 100000 in
theorem keysParts_lifted (os : Os) (started : os.Started) (H : Type) (enc : TypeId × Value → H) :
    ReturnsInHanded {} Try.checked os 3 .any (Rows.keysPartsSpec.pre6 enc Try.prog Try.f3 Rows.keysPartsRow.domain false) (Rows.keysPartsSpec.post enc Try.prog Try.f3 false true false false) :=
  lift_law (s := Rows.keysPartsSpec) started _ Try.func3 (by kernel_rfl) rfl rfl Try.underlying4 rfl
    (fun ds h => match ds, h with | [_, _, _], _ => ⟨rfl, rfl, rfl⟩) (by kernel_rfl)
    (ChangeSpec.witness6 (enc := enc) (C := Try.checked) false ⟨#[], #[.agg #[.string ⟨#[]⟩, .string ⟨#[]⟩], .string ⟨#[]⟩, .string ⟨#[]⟩], []⟩ 8 (by kernel_rfl) (by kernel_rfl) (by kernel_rfl) (by kernel_rfl))
    (keysParts_walk H enc)

set_option maxRecDepth 100000 in
theorem keysParts_holds : Rows.KeysPartsSaid :=
  OpenClaim.holds_of_wide 3 Try.f3 rfl rfl rfl rfl rfl rfl rfl ⟨rfl, rfl, rfl, rfl, rfl⟩ rfl rfl rfl rfl rfl (by kernel_rfl) Try.func3 (by kernel_rfl)
    (of_decide_eq_true (by kernel_rfl)) (by unfold Func.isWrapper; rw [if_neg (of_decide_eq_false (by kernel_rfl))]; exact ⟨rfl, rfl⟩)
    (fun os started H enc _ => keysParts_lifted os started H enc)

#print axioms keysParts_holds

end Go.Proofs.Ytdmepdjlfdigeaa
