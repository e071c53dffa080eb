/-
  PROVED HERE: acreagelaw12.MergeAll returns true at every list of lists of cells, where what it reads is of bulk at most 1048576, and leaves what was there as it was. That bound is the only condition.
-/
import Derived.Test.YtehbikofoidjhaaMAll12W
import Derived.Test.YtehbikofoidjhaaOpenLists
import Derived.Test.YtehbikofoidjhaaLiftU
namespace Go.Proofs.Ytehbikofoidjhaa
open Go.ChangeShapes Go.WideShapes Go.ChangeAt Go.RowKit Go.Joins

theorem mergeAll_walk (H : Type) (enc : TypeId × Value → H) : LawWalk H enc 3 [22] := by
  intro W base args ds p hval hA hw _
  obtain ⟨v0, d0, rfl, rfl, h0⟩ := trodAll_one hA
  obtain ⟨ao, len, cap, es, rfl, hc⟩ := open_lists (hval 0 _ _ rfl rfl) h0
  exact mergeall_any ao len cap es W hc

set_option maxRecDepth 100000 in
theorem mergeAllUpto_lifted (os : Os) (started : os.Started) (H : Type) (enc : TypeId × Value → H) (Fi : Stop.Interp) :
    ReturnsInHanded {} Try.checked os 3 .any ((Rows.OpenSpec.upto Rows.mergeAllSpec).pre6 enc Try.prog Try.f3 Rows.mergeAllUptoRow.domain false) (((Rows.OpenSpec.upto Rows.mergeAllSpec).at Fi).post enc Try.prog Try.f3 false true false false) :=
  lift_lawU (s := Rows.mergeAllSpec) started _ Try.func3 (by kernel_rfl) rfl rfl Try.underlying4 rfl
    (fun ds h => match ds, h with | [_], _ => ⟨rfl, rfl, rfl⟩) (by kernel_rfl)
    (OpenSpec.witness (enc := enc) (C := Try.checked) (s := Rows.OpenSpec.upto Rows.mergeAllSpec) (k := Rows.uptoSmall) rfl false ⟨#[], #[.slice none 0 0], []⟩ 8 (by kernel_rfl) (by kernel_rfl) (by kernel_rfl)
      (x := ([.nil], [], [])) (by kernel_rfl) rfl (by kernel_rfl))
    (mergeAll_walk H enc)

set_option maxRecDepth 100000 in
theorem mergeAllUpto_holds : Rows.MergeAllUptoSaid :=
  OpenClaim.holds_of_cond 3 Try.f3 rfl rfl rfl rfl rfl rfl rfl ⟨rfl, rfl, rfl, rfl, rfl⟩ rfl rfl rfl rfl rfl (by kernel_rfl) Try.func3 (by kernel_rfl)
    (of_decide_eq_true (by kernel_rfl)) (by unfold Func.isWrapper; rw [if_neg (of_decide_eq_false (by kernel_rfl))]; exact ⟨rfl, rfl⟩)
    (fun os started H enc _ Fi => mergeAllUpto_lifted os started H enc Fi)

#print axioms mergeAllUpto_holds

end Go.Proofs.Ytehbikofoidjhaa
