/-
  PROVED HERE: acreagelaw10.BlockShort returns true at every list of cells, where what it reads is of bulk at most 1048576, and leaves what was there as it was. That bound is the only condition.
-/
import Derived.Test.YtfkghpomcaonfaaBlkShortV
import Derived.Test.YtfkghpomcaonfaaOpenCells
import Derived.Test.YtfkghpomcaonfaaLiftU
namespace Go.Proofs.Ytfkghpomcaonfaa
open Go.ChangeShapes Go.WideShapes Go.ChangeAt Go.RowKit Go.Joins

set_option maxRecDepth 100000 in
theorem blockShort_walk (H : Type) (enc : TypeId × Value → H) : LawWalk H enc 8 [22] := by
  intro W base args ds p hval hA hw _
  obtain ⟨v0, d0, rfl, rfl, h0⟩ := trodAll_one hA
  obtain ⟨ao, len, cap, cs, rfl, hc, hok⟩ := open_cells (hval 0 _ _ rfl rfl) h0
  exact blockshort_any ao len cap cs W hc hok

set_option maxRecDepth 100000 in
theorem blockShortUpto_lifted (os : Os) (started : os.Started) (H : Type) (enc : TypeId × Value → H) (Fi : Stop.Interp) :
    ReturnsInHanded {} Try.checked os 8 .any ((Rows.OpenSpec.upto Rows.blockShortSpec).pre6 enc Try.prog Try.f8 Rows.blockShortUptoRow.domain false) (((Rows.OpenSpec.upto Rows.blockShortSpec).at Fi).post enc Try.prog Try.f8 false true false false) :=
  lift_lawU (s := Rows.blockShortSpec) started _ Try.func8 (by kernel_rfl) rfl rfl Try.underlying4 rfl
    (fun ds h => match ds, h with | [_], _ => ⟨rfl, rfl, rfl⟩) (by kernel_rfl)
    (OpenSpec.witness (enc := enc) (C := Try.checked) (s := Rows.OpenSpec.upto Rows.blockShortSpec) (k := Rows.uptoSmall) rfl false ⟨#[], #[.slice none 0 0], []⟩ 8 (by kernel_rfl) (by kernel_rfl) (by kernel_rfl)
      (x := ([.nil], [], [])) (by kernel_rfl) rfl (by kernel_rfl))
    (blockShort_walk H enc)

set_option maxRecDepth 100000 in
theorem blockShortUpto_holds : Rows.BlockShortUptoSaid :=
  OpenClaim.holds_of_cond 8 Try.f8 rfl rfl rfl rfl rfl rfl rfl ⟨rfl, rfl, rfl, rfl, rfl⟩ rfl rfl rfl rfl rfl (by kernel_rfl) Try.func8 (by kernel_rfl)
    (of_decide_eq_true (by kernel_rfl)) (by unfold Func.isWrapper; rw [if_neg (of_decide_eq_false (by kernel_rfl))]; exact ⟨rfl, rfl⟩)
    (fun os started H enc _ Fi => blockShortUpto_lifted os started H enc Fi)

#print axioms blockShortUpto_holds

end Go.Proofs.Ytfkghpomcaonfaa
