/-
  PROVED HERE: acreagelaw32.AuditTablets returns true at every list of replicas, and leaves what was there as it was. No conditions.
-/
import Derived.Test.YteibnignjghedaaAudL2
import Derived.Test.YteibnignjghedaaOpenSeens
namespace Go.Proofs.Yteibnignjghedaa
open Go.ChangeShapes Go.WideShapes Go.ChangeAt Go.RowKit Go.Joins

set_option maxRecDepth 100000 in
theorem auditTablets_walk (H : Type) (enc : TypeId × Value → H) : LawWalk H enc 4 [22] := by
  intro W base args ds p hval hA hw _
  obtain ⟨v0, d0, rfl, rfl, h0⟩ := trodAll_one hA
  have hw0 := weights_at hw 0 rfl rfl
  obtain ⟨ao, n, cap, l, rfl, hS, hok, hwt⟩ := open_seens (hval 0 _ _ rfl rfl) h0 hw0
  exact audittablets_any ao n cap l W hS hok hwt

set_option maxRecDepth 100000 in
theorem auditTablets_lifted (os : Os) (started : os.Started) (H : Type) (enc : TypeId × Value → H) :
    ReturnsInHanded {} Try.checked os 4 .any (Rows.auditTabletsSpec.pre6 enc Try.prog Try.f4 Rows.auditTabletsRow.domain false) (Rows.auditTabletsSpec.post enc Try.prog Try.f4 false true false false) :=
  lift_law (s := Rows.auditTabletsSpec) started _ Try.func4 (by kernel_rfl) rfl rfl Try.underlying4 rfl
    (fun ds h => match ds, h with | [_], _ => ⟨rfl, rfl, rfl⟩) (by kernel_rfl)
    (ChangeSpec.witness6 (enc := enc) (C := Try.checked) false ⟨#[], #[.slice none 0 0], []⟩ 8 (by kernel_rfl) (by kernel_rfl) (by kernel_rfl) (by kernel_rfl))
    (auditTablets_walk H enc)

set_option maxRecDepth 100000 in
theorem auditTablets_holds : Rows.AuditTabletsSaid :=
  OpenClaim.holds_of_wide 4 Try.f4 rfl rfl rfl rfl rfl rfl rfl ⟨rfl, rfl, rfl, rfl, rfl⟩ rfl rfl rfl rfl rfl (by kernel_rfl) Try.func4 (by kernel_rfl)
    (of_decide_eq_true (by kernel_rfl)) (by unfold Func.isWrapper; rw [if_neg (of_decide_eq_false (by kernel_rfl))]; exact ⟨rfl, rfl⟩)
    (fun os started H enc _ => auditTablets_lifted os started H enc)

#print axioms auditTablets_holds

end Go.Proofs.Yteibnignjghedaa
