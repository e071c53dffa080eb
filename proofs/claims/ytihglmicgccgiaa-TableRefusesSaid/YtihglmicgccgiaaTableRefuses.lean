/-
  PROVED HERE: acreagelaw11.TableRefuses returns true at every list of places, place and byte, and leaves what was there as it was. No conditions.
-/
import Derived.Test.YtihglmicgccgiaaTblRe
import Derived.Test.YtihglmicgccgiaaOpenSlice
import Derived.Test.YtihglmicgccgiaaOpenSpots
namespace Go.Proofs.Ytihglmicgccgiaa
open Go.ChangeShapes Go.WideShapes Go.ChangeAt Go.RowKit Go.Joins

set_option maxRecDepth 100000 in
theorem tableRefuses_walk (H : Type) (enc : TypeId × Value → H) : LawWalk H enc 4 [42, 3, 5] := by
  intro W base args ds p hval hA hw _
  obtain ⟨v0, v1, v2, d0, d1, d2, p0, p1, p2, rfl, rfl, rfl, h0, h1, h2⟩ := trodAll_three hA
  obtain ⟨ao, n, cap, ss, rfl, hS, hok⟩ := open_spots (hval 0 _ _ rfl rfl) h0
  obtain ⟨a, rfl, _, _, ha⟩ := open_int Try.underlying3 (hval 1 _ _ rfl rfl) h1
  obtain ⟨b, rfl, _, _, hb⟩ := open_int Try.underlying5 (hval 2 _ _ rfl rfl) h2
  have ha0 : -9223372036854775808 ≤ a ∧ a ≤ 9223372036854775807 := by
    simpa [Lit.wf, IntKind.min, IntKind.max, IntKind.signed, IntKind.bits] using ha
  obtain ⟨u, rfl⟩ := u8_ofS hb
  exact refuses_any ao n cap ss a u W hS hok ha0

set_option maxRecDepth 100000 in
theorem tableRefuses_lifted (os : Os) (started : os.Started) (H : Type) (enc : TypeId × Value → H) :
    ReturnsInHanded {} Try.checked os 4 .any (Rows.tableRefusesSpec.pre6 enc Try.prog Try.f4 Rows.tableRefusesRow.domain false) (Rows.tableRefusesSpec.post enc Try.prog Try.f4 false true false false) :=
  lift_law (s := Rows.tableRefusesSpec) started _ Try.func4 (by kernel_rfl) rfl rfl Try.underlying4 rfl
    (fun ds h => match ds, h with | [_, _, _], _ => ⟨rfl, rfl, rfl⟩) (by kernel_rfl)
    (ChangeSpec.witness6 (enc := enc) (C := Try.checked) false ⟨#[], #[.slice none 0 0, .int .i64 0, .int .u8 0], []⟩ 8 (by kernel_rfl) (by kernel_rfl) (by kernel_rfl) (by kernel_rfl))
    (tableRefuses_walk H enc)

set_option maxRecDepth 100000 in
theorem tableRefuses_holds : Rows.TableRefusesSaid :=
  OpenClaim.holds_of_wide 4 Try.f4 rfl rfl rfl rfl rfl rfl rfl ⟨rfl, rfl, rfl, rfl, rfl⟩ rfl rfl rfl rfl rfl (by kernel_rfl) Try.func4 (by kernel_rfl)
    (of_decide_eq_true (by kernel_rfl)) (by unfold Func.isWrapper; rw [if_neg (of_decide_eq_false (by kernel_rfl))]; exact ⟨rfl, rfl⟩)
    (fun os started H enc _ => tableRefuses_lifted os started H enc)

#print axioms tableRefuses_holds

end Go.Proofs.Ytihglmicgccgiaa
