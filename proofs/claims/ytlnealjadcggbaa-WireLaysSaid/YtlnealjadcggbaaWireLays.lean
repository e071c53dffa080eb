/-
  PROVED HERE: acreagelaw01.WireLays returns true at every two strings and every number, and leaves what was there as it was. No conditions.
-/
import Derived.Test.YtlnealjadcggbaaWireLaysW
import Derived.Test.YtlnealjadcggbaaOpenSlice
namespace Go.Proofs.Ytlnealjadcggbaa
open Go.ChangeShapes Go.WideShapes Go.ChangeAt Go.RowKit Go.Joins
open Go.ChangeMaps (open_string)

theorem wireLays_walk (H : Type) (enc : TypeId × Value → H) : LawWalk H enc 5 [9, 23, 9] := by
  intro W base args ds p hval hA _ _
  obtain ⟨v0, v1, v2, d0, d1, d2, p0, p1, p2, rfl, rfl, rfl, h0, h1, h2⟩ := trodAll_three hA
  obtain ⟨b, rfl, _, _, hb⟩ := open_string Try.underlying9 (hval 0 _ _ rfl rfl) h0
  obtain ⟨n, rfl, _, _, wn⟩ := open_int Try.underlying23 (hval 1 _ _ rfl rfl) h1
  obtain ⟨s, rfl, _, _, hs⟩ := open_string Try.underlying9 (hval 2 _ _ rfl rfl) h2
  exact lays_any b s n W hb hs (by simpa [U64, Lit.wf, IntKind.min, IntKind.max, IntKind.signed, IntKind.bits] using wn)

set_option maxRecDepth 100000 in
theorem wireLays_lifted (os : Os) (started : os.Started) (H : Type) (enc : TypeId × Value → H) :
    ReturnsInHanded {} Try.checked os 5 .any (Rows.wireLaysSpec.pre6 enc Try.prog Try.f5 Rows.wireLaysRow.domain false) (Rows.wireLaysSpec.post enc Try.prog Try.f5 false true false false) :=
  lift_law (s := Rows.wireLaysSpec) started _ Try.func5 (by kernel_rfl) rfl rfl Try.underlying4 rfl
    (fun ds h => match ds, h with | [_, _, _], _ => ⟨rfl, rfl, rfl⟩) (by kernel_rfl)
    (ChangeSpec.witness6 (enc := enc) (C := Try.checked) false ⟨#[], #[.string ⟨#[]⟩, .int .u64 0, .string ⟨#[]⟩], []⟩ 8 (by kernel_rfl) (by kernel_rfl) (by kernel_rfl) (by kernel_rfl))
    (wireLays_walk H enc)

set_option maxRecDepth 100000 in
theorem wireLays_holds : Rows.WireLaysSaid :=
  OpenClaim.holds_of_wide 5 Try.f5 rfl rfl rfl rfl rfl rfl rfl ⟨rfl, rfl, rfl, rfl, rfl⟩ rfl rfl rfl rfl rfl (by kernel_rfl) Try.func5 (by kernel_rfl)
    (of_decide_eq_true (by kernel_rfl)) (by unfold Func.isWrapper; rw [if_neg (of_decide_eq_false (by kernel_rfl))]; exact ⟨rfl, rfl⟩)
    (fun os started H enc _ => wireLays_lifted os started H enc)

#print axioms wireLays_holds

end Go.Proofs.Ytlnealjadcggbaa
