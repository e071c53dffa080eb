/-
  PROVED HERE: acreagelaw08.SkipPlays returns true at every list of steps, and leaves what was there as it was. No conditions.
-/
import Derived.Test.YtlnfdejflpgleaaPlayW
import Derived.Test.YtlnfdejflpgleaaOpenDos
namespace Go.Proofs.Ytlnfdejflpgleaa
open Go.ChangeShapes Go.WideShapes Go.ChangeAt Go.RowKit Go.Joins

theorem skipPlays_walk (H : Type) (enc : TypeId × Value → H) : LawWalk H enc 4 [37] := by
  intro W base args ds p hval hA hw _
  obtain ⟨v0, d0, rfl, rfl, h0⟩ := trodAll_one hA
  obtain ⟨ao, len, cap, cs, rfl, hc, hok⟩ := open_dos (hval 0 _ _ rfl rfl) h0
  exact skipplays_any ao len cap cs W hc hok

set_option maxRecDepth 100000 in
theorem skipPlays_lifted (os : Os) (started : os.Started) (H : Type) (enc : TypeId × Value → H) :
    ReturnsInHanded {} Try.checked os 4 .any (Rows.skipPlaysSpec.pre6 enc Try.prog Try.f4 Rows.skipPlaysRow.domain false) (Rows.skipPlaysSpec.post enc Try.prog Try.f4 false true false false) :=
  lift_law (s := Rows.skipPlaysSpec) started _ Try.func4 (by kernel_rfl) rfl rfl Try.underlying4 rfl
    (fun ds h => match ds, h with | [_], _ => ⟨rfl, rfl, rfl⟩) (by kernel_rfl)
    (ChangeSpec.witness6 (enc := enc) (C := Try.checked) false ⟨#[], #[.slice none 0 0], []⟩ 8 (by kernel_rfl) (by kernel_rfl) (by kernel_rfl) (by kernel_rfl))
    (skipPlays_walk H enc)

set_option maxRecDepth 100000 in
theorem skipPlays_holds : Rows.SkipPlaysSaid :=
  OpenClaim.holds_of_wide 4 Try.f4 rfl rfl rfl rfl rfl rfl rfl ⟨rfl, rfl, rfl, rfl, rfl⟩ rfl rfl rfl rfl rfl (by kernel_rfl) Try.func4 (by kernel_rfl)
    (of_decide_eq_true (by kernel_rfl)) (by unfold Func.isWrapper; rw [if_neg (of_decide_eq_false (by kernel_rfl))]; exact ⟨rfl, rfl⟩)
    (fun os started H enc _ => skipPlays_lifted os started H enc)

#print axioms skipPlays_holds

end Go.Proofs.Ytlnfdejflpgleaa
