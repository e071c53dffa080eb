/-
  PROVED HERE: acreagelaw32.AuditParts returns true at every list of bytes and of parts, and leaves what was there as it was. No conditions.
-/
import Derived.Test.YteibnignjghedaaAudPW
import Derived.Test.YteibnignjghedaaOpenPart
namespace Go.Proofs.Yteibnignjghedaa
open Go.ChangeShapes Go.WideShapes Go.ChangeAt Go.RowKit Go.Joins

set_option maxRecDepth 100000 in
theorem auditParts_walk (H : Type) (enc : TypeId × Value → H) : LawWalk H enc 6 [51, 52] := by
  intro W base args ds p hval hA hw _
  obtain ⟨v0, v1, d0, d1, p0, p1, rfl, rfl, rfl, h0, h1⟩ := trodAll_two hA
  have hw0 := weights_at hw 0 rfl rfl
  have hw1 := weights_at hw 1 rfl rfl
  obtain ⟨ga, gn, gc, gs, rfl, hg, hg0⟩ := open_u8s (hval 0 _ _ rfl rfl) h0 hw0
  obtain ⟨pa, pn, pc, ps, rfl, hp, hp0⟩ := open_parts (hval 1 _ _ rfl rfl) h1 hw1
  exact auditparts_any ga gn gc gs pa pn pc ps W hg hg0 hp hp0

set_option maxRecDepth 100000 in
theorem auditParts_lifted (os : Os) (started : os.Started) (H : Type) (enc : TypeId × Value → H) :
    ReturnsInHanded {} Try.checked os 6 .any (Rows.auditPartsSpec.pre6 enc Try.prog Try.f6 Rows.auditPartsRow.domain false) (Rows.auditPartsSpec.post enc Try.prog Try.f6 false true false false) :=
  lift_law (s := Rows.auditPartsSpec) started _ Try.func6 (by kernel_rfl) rfl rfl Try.underlying4 rfl
    (fun ds h => match ds, h with | [_, _], _ => ⟨rfl, rfl, rfl⟩) (by kernel_rfl)
    (ChangeSpec.witness6 (enc := enc) (C := Try.checked) false ⟨#[], #[.slice none 0 0, .slice none 0 0], []⟩ 8 (by kernel_rfl) (by kernel_rfl) (by kernel_rfl) (by kernel_rfl))
    (auditParts_walk H enc)

set_option maxRecDepth 100000 in
theorem auditParts_holds : Rows.AuditPartsSaid :=
  OpenClaim.holds_of_wide 6 Try.f6 rfl rfl rfl rfl rfl rfl rfl ⟨rfl, rfl, rfl, rfl, rfl⟩ rfl rfl rfl rfl rfl (by kernel_rfl) Try.func6 (by kernel_rfl)
    (of_decide_eq_true (by kernel_rfl)) (by unfold Func.isWrapper; rw [if_neg (of_decide_eq_false (by kernel_rfl))]; exact ⟨rfl, rfl⟩)
    (fun os started H enc _ => auditParts_lifted os started H enc)

#print axioms auditParts_holds

end Go.Proofs.Yteibnignjghedaa
