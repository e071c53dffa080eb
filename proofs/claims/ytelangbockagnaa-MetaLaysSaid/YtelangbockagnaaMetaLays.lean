/-
  PROVED HERE: acreagelaw23.MetaLays returns true at every place and every text, and leaves what was there as it was. No conditions.
-/
import Derived.Test.YtelangbockagnaaMetaLaysW
import Derived.Test.YtelangbockagnaaOpenLoc
namespace Go.Proofs.Ytelangbockagnaa
open Go.ChangeShapes Go.WideShapes Go.ChangeAt Go.RowKit Go.Joins

theorem metaLays_walk (H : Type) (enc : TypeId × Value → H) : LawWalk H enc 3 [27, 9] := by
  intro W base args ds p hval hA _ _
  obtain ⟨v0, v1, d0, d1, p0, p1, rfl, rfl, rfl, h0, h1⟩ := trodAll_two hA
  obtain ⟨c, ao, n, cap, rfl, hI, hok⟩ := open_loc (hval 0 _ _ rfl rfl) h0
  obtain ⟨s, rfl, hs⟩ := open_text (hval 1 _ _ rfl rfl) h1
  exact metalays_any c ao n cap s W hok hI hs

set_option maxRecDepth 100000 in
theorem metaLays_lifted (os : Os) (started : os.Started) (H : Type) (enc : TypeId × Value → H) :
    ReturnsInHanded {} Try.checked os 3 .any (Rows.metaLaysSpec.pre6 enc Try.prog Try.f3 Rows.metaLaysRow.domain false) (Rows.metaLaysSpec.post enc Try.prog Try.f3 false true false false) :=
  lift_law (s := Rows.metaLaysSpec) started _ Try.func3 (by kernel_rfl) rfl rfl Try.underlying4 rfl
    (fun ds h => match ds, h with | [_, _], _ => ⟨rfl, rfl, rfl⟩) (by kernel_rfl)
    (ChangeSpec.witness6 (enc := enc) (C := Try.checked) false ⟨#[], #[.agg #[.int .i64 0, .string ⟨#[]⟩, .string ⟨#[]⟩, .int .u64 0, .slice none 0 0], .string ⟨#[]⟩], []⟩ 8 (by kernel_rfl) (by kernel_rfl) (by kernel_rfl) (by kernel_rfl))
    (metaLays_walk H enc)

set_option maxRecDepth 100000 in
theorem metaLays_holds : Rows.MetaLaysSaid :=
  OpenClaim.holds_of_wide 3 Try.f3 rfl rfl rfl rfl rfl rfl rfl ⟨rfl, rfl, rfl, rfl, rfl⟩ rfl rfl rfl rfl rfl (by kernel_rfl) Try.func3 (by kernel_rfl)
    (of_decide_eq_true (by kernel_rfl)) (by unfold Func.isWrapper; rw [if_neg (of_decide_eq_false (by kernel_rfl))]; exact ⟨rfl, rfl⟩)
    (fun os started H enc _ => metaLays_lifted os started H enc)

#print axioms metaLays_holds

end Go.Proofs.Ytelangbockagnaa
