/-
  PROVED HERE: acreagelaw23.MetaBack returns true at every input, and leaves what was there as it was. No conditions.
-/
import Derived.Test.YtelangbockagnaaMetaBackBW
import Derived.Test.YtelangbockagnaaMetaBackGW
import Derived.Test.YtelangbockagnaaOpenLoc
namespace Go.Proofs.Ytelangbockagnaa
open Go.ChangeShapes Go.WideShapes Go.ChangeAt Go.RowKit Go.Joins Go.Deep

theorem cells_arr2 : Try.prog.cellsOf 37 = 2 := by kernel_rfl
theorem open_two {H : Type} {enc : TypeId × Value → H} {W : World} {base b0 : Nat} {sp : Nat → Bool} {held : Bool} {v : Value} {d : DataW H} {p : List MemPlace}
    (hv : Value.okWide Try.prog W .any base 37 v) (h : DataW.Trod enc Try.prog W b0 sp held 37 v d p) :
    ∃ a b : ByteArray, v = .agg #[.string a, .string b] ∧ a.size ≤ maxLen ∧ b.size ≤ maxLen := by
  simp only [Value.okWide, Try.underlying37] at hv
  obtain ⟨cs, rfl, hsz, _⟩ := hv
  obtain ⟨fuel, hf⟩ := h
  obtain ⟨xs, m, _, _, _, hlen, hg⟩ := DataW.trod_array Try.underlying37 hf
  obtain ⟨l⟩ := cs
  rw [cells_arr2] at hsz
  have hsz' : l.length = 2 := by simpa using hsz
  match l, hsz', xs, hlen with
  | [x0, x1], _, [y0, y1], _ =>
    have h0 : DataW.trod enc Try.prog W b0 sp held m 9 [x0] = some y0 := by simpa [Value.cells, cells_str1] using hg 0 (by decide)
    have h1 : DataW.trod enc Try.prog W b0 sp held m 9 [x1] = some y1 := by simpa [Value.cells, cells_str1] using hg 1 (by decide)
    obtain ⟨a, q1, _, w1⟩ := DataW.trod_string Try.underlying9 h0
    obtain ⟨b, q2, _, w2⟩ := DataW.trod_string Try.underlying9 h1
    simp only [List.cons.injEq, and_true] at q1 q2
    subst q1 q2
    exact ⟨a, b, rfl, w1, w2⟩

theorem u8_nat {n : Int} (h : (Lit.int .u8 n).wf = true) : ∃ k : Nat, n = k ∧ k < 256 := by
  have : 0 ≤ n ∧ n ≤ 255 := by simpa [Lit.wf, IntKind.min, IntKind.max, IntKind.signed, IntKind.bits] using h
  exact ⟨n.toNat, by omega, by omega⟩

theorem metaBack_walk (H : Type) (enc : TypeId × Value → H) : LawWalk H enc 4 [5, 5, 37] := by
  intro W base args ds p hval hA _ _
  obtain ⟨v0, v1, v2, d0, d1, d2, p0, p1, p2, rfl, rfl, rfl, h0, h1, h2⟩ := trodAll_three hA
  obtain ⟨g, rfl, _, _, wg⟩ := open_int Try.underlying5 (hval 0 _ _ rfl rfl) h0
  obtain ⟨q, rfl, _, _, wq⟩ := open_int Try.underlying5 (hval 1 _ _ rfl rfl) h1
  obtain ⟨sa, sb, rfl, ha, hb⟩ := open_two (hval 2 _ _ rfl rfl) h2
  obtain ⟨g', rfl, hg⟩ := u8_nat wg
  obtain ⟨q', rfl, hq⟩ := u8_nat wq
  rcases Bool.eq_false_or_eq_true (mayL (sa.extract 0 (min sa.size 24)).toList (sb.extract 0 (min sb.size 24)).toList) with h | h
  · exact metaback_good g' q' sa sb W hg hq ha hb h
  · exact metaback_bad g' q' sa sb W hg hq ha hb h

set_option maxRecDepth 100000 in
theorem metaBack_lifted (os : Os) (started : os.Started) (H : Type) (enc : TypeId × Value → H) :
    ReturnsInHanded {} Try.checked os 4 .any (Rows.metaBackSpec.pre6 enc Try.prog Try.f4 Rows.metaBackRow.domain false) (Rows.metaBackSpec.post enc Try.prog Try.f4 false true false false) :=
  lift_law (s := Rows.metaBackSpec) started _ Try.func4 (by kernel_rfl) rfl rfl Try.underlying4 rfl
    (fun ds h => match ds, h with | [_, _, _], _ => ⟨rfl, rfl, rfl⟩) (by kernel_rfl)
    (ChangeSpec.witness6 (enc := enc) (C := Try.checked) false ⟨#[], #[.int .u8 0, .int .u8 0, .agg #[.string ⟨#[]⟩, .string ⟨#[]⟩]], []⟩ 8 (by kernel_rfl) (by kernel_rfl) (by kernel_rfl) (by kernel_rfl))
    (metaBack_walk H enc)

set_option maxRecDepth 100000 in
theorem metaBack_holds : Rows.MetaBackSaid :=
  OpenClaim.holds_of_wide 4 Try.f4 rfl rfl rfl rfl rfl rfl rfl ⟨rfl, rfl, rfl, rfl, rfl⟩ rfl rfl rfl rfl rfl (by kernel_rfl) Try.func4 (by kernel_rfl)
    (of_decide_eq_true (by kernel_rfl)) (by unfold Func.isWrapper; rw [if_neg (of_decide_eq_false (by kernel_rfl))]; exact ⟨rfl, rfl⟩)
    (fun os started H enc _ => metaBack_lifted os started H enc)

#print axioms metaBack_holds

end Go.Proofs.Ytelangbockagnaa
