/-
  PROVED HERE: acreagelaw32.AuditChecks returns true at every list of replicas, and leaves what was there as it was. No conditions.
-/
import Derived.Test.YteibnignjghedaaAudL1
import Derived.Test.YteibnignjghedaaOpenSeens
namespace Go.Proofs.Yteibnignjghedaa
open Go.ChangeShapes Go.WideShapes Go.ChangeAt Go.RowKit Go.Joins

set_option maxRecDepth 100000 in
theorem auditChecks_walk (H : Type) (enc : TypeId × Value → H) : LawWalk H enc 3 [22] := by
  intro W base args ds p hval hA hw _
  obtain ⟨v0, d0, rfl, rfl, h0⟩ := trodAll_one hA
  have hw0 := weights_at hw 0 rfl rfl
  obtain ⟨ao, n, cap, l, rfl, hS, hok, hwt⟩ := open_seens (hval 0 _ _ rfl rfl) h0 hw0
  exact auditchecks_any ao n cap l W hS hok hwt

set_option maxRecDepth 100000 in
theorem auditChecks_lifted (os : Os) (started : os.Started) (H : Type) (enc : TypeId × Value → H) :
    ReturnsInHanded {} Try.checked os 3 .any (Rows.auditChecksSpec.pre6 enc Try.prog Try.f3 Rows.auditChecksRow.domain false) (Rows.auditChecksSpec.post enc Try.prog Try.f3 false true false false) :=
  lift_law (s := Rows.auditChecksSpec) started _ Try.func3 (by kernel_rfl) rfl rfl Try.underlying4 rfl
    (fun ds h => match ds, h with | [_], _ => ⟨rfl, rfl, rfl⟩) (by kernel_rfl)
    (ChangeSpec.witness6 (enc := enc) (C := Try.checked) false ⟨#[], #[.slice none 0 0], []⟩ 8 (by kernel_rfl) (by kernel_rfl) (by kernel_rfl) (by kernel_rfl))
    (auditChecks_walk H enc)

set_option maxRecDepth 100000 in
theorem auditChecks_holds : Rows.AuditChecksSaid :=
  OpenClaim.holds_of_wide 3 Try.f3 rfl rfl rfl rfl rfl rfl rfl ⟨rfl, rfl, rfl, rfl, rfl⟩ rfl rfl rfl rfl rfl (by kernel_rfl) Try.func3 (by kernel_rfl)
    (of_decide_eq_true (by kernel_rfl)) (by unfold Func.isWrapper; rw [if_neg (of_decide_eq_false (by kernel_rfl))]; exact ⟨rfl, rfl⟩)
    (fun os started H enc _ => auditChecks_lifted os started H enc)

#print axioms auditChecks_holds

end Go.Proofs.Yteibnignjghedaa
