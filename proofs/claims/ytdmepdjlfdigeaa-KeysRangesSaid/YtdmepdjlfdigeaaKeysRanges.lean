/-
  PROVED HERE: acreagelaw03.KeysRanges returns true at every two ranges and every key, and leaves what was there as it was. No conditions.
-/
import Derived.Test.YtdmepdjlfdigeaaRangesW
import Derived.Test.YtdmepdjlfdigeaaOpenKeys
namespace Go.Proofs.Ytdmepdjlfdigeaa
open Go.ChangeShapes Go.WideShapes Go.ChangeAt Go.RowKit Go.Joins

theorem keysRanges_walk (H : Type) (enc : TypeId × Value → H) : LawWalk H enc 4 [23, 23, 9] := by
  intro W base args ds p hval hA _ _
  obtain ⟨v0, v1, v2, d0, d1, d2, p0, p1, p2, rfl, rfl, rfl, h0, h1, h2⟩ := trodAll_three hA
  obtain ⟨al, ah, rfl, hl, hh⟩ := open_range (hval 0 _ _ rfl rfl) h0
  obtain ⟨bl, bh, rfl, _, _⟩ := open_range (hval 1 _ _ rfl rfl) h1
  obtain ⟨key, rfl, hk⟩ := open_text (hval 2 _ _ rfl rfl) h2
  by_cases hs : splitL al.toList ah.toList key.toList = true
  · exact ranges_yes al ah bl bh key W hl hh hk hs
  · exact ranges_no al ah bl bh key W hl hh hk (by simpa using hs)

set_option maxRecDepth 100000 in
theorem keysRanges_lifted (os : Os) (started : os.Started) (H : Type) (enc : TypeId × Value → H) :
    ReturnsInHanded {} Try.checked os 4 .any (Rows.keysRangesSpec.pre6 enc Try.prog Try.f4 Rows.keysRangesRow.domain false) (Rows.keysRangesSpec.post enc Try.prog Try.f4 false true false false) :=
  lift_law (s := Rows.keysRangesSpec) started _ Try.func4 (by kernel_rfl) rfl rfl Try.underlying4 rfl
    (fun ds h => match ds, h with | [_, _, _], _ => ⟨rfl, rfl, rfl⟩) (by kernel_rfl)
    (ChangeSpec.witness6 (enc := enc) (C := Try.checked) false ⟨#[], #[.agg #[.string ⟨#[]⟩, .string ⟨#[]⟩], .agg #[.string ⟨#[]⟩, .string ⟨#[]⟩], .string ⟨#[]⟩], []⟩ 8 (by kernel_rfl) (by kernel_rfl) (by kernel_rfl) (by kernel_rfl))
    (keysRanges_walk H enc)

set_option maxRecDepth 100000 in
theorem keysRanges_holds : Rows.KeysRangesSaid :=
  OpenClaim.holds_of_wide 4 Try.f4 rfl rfl rfl rfl rfl rfl rfl ⟨rfl, rfl, rfl, rfl, rfl⟩ rfl rfl rfl rfl rfl (by kernel_rfl) Try.func4 (by kernel_rfl)
    (of_decide_eq_true (by kernel_rfl)) (by unfold Func.isWrapper; rw [if_neg (of_decide_eq_false (by kernel_rfl))]; exact ⟨rfl, rfl⟩)
    (fun os started H enc _ => keysRanges_lifted os started H enc)

#print axioms keysRanges_holds

end Go.Proofs.Ytdmepdjlfdigeaa
