/-
  PROVED HERE: acreagelaw32.AuditOrder returns true at every list of replicas, beginning and direction, and leaves what was there as it was. No conditions.
-/
import Derived.Test.YteibnignjghedaaAudL3
import Derived.Test.YteibnignjghedaaOpenSeens
namespace Go.Proofs.Yteibnignjghedaa
open Go.ChangeShapes Go.WideShapes Go.ChangeAt Go.RowKit Go.Joins

set_option maxRecDepth 100000 in
theorem auditOrder_walk (H : Type) (enc : TypeId × Value → H) : LawWalk H enc 5 [22, 5, 4] := by
  intro W base args ds p hval hA hw _
  obtain ⟨v0, v1, v2, d0, d1, d2, p0, p1, p2, rfl, rfl, rfl, h0, h1, h2⟩ := trodAll_three hA
  have hw0 := weights_at hw 0 rfl rfl
  obtain ⟨ao, n, cap, l, rfl, hS, hok, hwt⟩ := open_seens (hval 0 _ _ rfl rfl) h0 hw0
  obtain ⟨f, rfl, _, _, hf⟩ := open_int Try.underlying5 (hval 1 _ _ rfl rfl) h1
  have hf0 : 0 ≤ f ∧ f ≤ 255 := by
    simpa [Lit.wf, IntKind.min, IntKind.max, IntKind.signed, IntKind.bits] using hf
  obtain ⟨back, rfl, _, _⟩ := open_bool Try.underlying4 (hval 2 _ _ rfl rfl) h2
  obtain ⟨F, rfl⟩ : ∃ F : Nat, f = (F : Int) := ⟨f.toNat, by omega⟩
  exact auditorder_any ao n cap F back l W hS hok hwt (by omega)

set_option maxRecDepth 100000 in
theorem auditOrder_lifted (os : Os) (started : os.Started) (H : Type) (enc : TypeId × Value → H) :
    ReturnsInHanded {} Try.checked os 5 .any (Rows.auditOrderSpec.pre6 enc Try.prog Try.f5 Rows.auditOrderRow.domain false) (Rows.auditOrderSpec.post enc Try.prog Try.f5 false true false false) :=
  lift_law (s := Rows.auditOrderSpec) started _ Try.func5 (by kernel_rfl) rfl rfl Try.underlying4 rfl
    (fun ds h => match ds, h with | [_, _, _], _ => ⟨rfl, rfl, rfl⟩) (by kernel_rfl)
    (ChangeSpec.witness6 (enc := enc) (C := Try.checked) false ⟨#[], #[.slice none 0 0, .int .u8 0, .bool false], []⟩ 8 (by kernel_rfl) (by kernel_rfl) (by kernel_rfl) (by kernel_rfl))
    (auditOrder_walk H enc)

set_option maxRecDepth 100000 in
theorem auditOrder_holds : Rows.AuditOrderSaid :=
  OpenClaim.holds_of_wide 5 Try.f5 rfl rfl rfl rfl rfl rfl rfl ⟨rfl, rfl, rfl, rfl, rfl⟩ rfl rfl rfl rfl rfl (by kernel_rfl) Try.func5 (by kernel_rfl)
    (of_decide_eq_true (by kernel_rfl)) (by unfold Func.isWrapper; rw [if_neg (of_decide_eq_false (by kernel_rfl))]; exact ⟨rfl, rfl⟩)
    (fun os started H enc _ => auditOrder_lifted os started H enc)

#print axioms auditOrder_holds

end Go.Proofs.Yteibnignjghedaa
