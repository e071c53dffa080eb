/-
  Opening a law's arguments: a list of bytes, a list of parts.
-/
import Derived.Test.YteibnignjghedaaOpenSeens
import Derived.Test.YteibnignjghedaaAudPL
namespace Go.Proofs.Yteibnignjghedaa
open Go.ChangeShapes Go.WideShapes Go.ChangeAt Go.RowKit Go.Joins Go.Deep

theorem rdc_u8 : Try.prog.cellsOf 5 = 1 := by kernel_rfl
theorem rdc_u8B : Try.prog.bytesOf 5 = 1 := by kernel_rfl
theorem rdc_part : Try.prog.cellsOf 62 = 3 := by kernel_rfl
theorem rdc_partB : Try.prog.bytesOf 62 = 3 := by kernel_rfl
theorem u8_of {i : Int} (h : (Lit.int .u8 i).wf = true) : 0 ≤ i ∧ i ≤ 255 := by
  simpa [Lit.wf, IntKind.min, IntKind.max, IntKind.signed, IntKind.bits] using h
section
variable {H : Type} {enc : TypeId × Value → H} {W : World} {b0 : Nat} {sp : Nat → Bool} {held : Bool}
set_option maxRecDepth 100000 in
theorem rd_part {cs : List Value} (hl : cs.length = 3) (h : RD enc W b0 sp held 62 cs) : ∃ p : PartA, cs = p.l ∧ p.Ok := by
  match cs, hl with
  | [x0, x1, x2], _ =>
    have r0 := h.field Try.underlying62 (j := 0) (o := 0) (z := 1) rfl rfl rfl rdc_u8
    have r1 := h.field Try.underlying62 (j := 1) (o := 1) (z := 1) rfl rfl rfl rdc_u8
    have r2 := h.field Try.underlying62 (j := 2) (o := 2) (z := 1) rfl rfl rfl rdc_u8
    obtain ⟨v0, q0, w0⟩ := r0.int Try.underlying5
    obtain ⟨v1, q1, w1⟩ := r1.int Try.underlying5
    obtain ⟨v2, q2, w2⟩ := r2.int Try.underlying5
    simp only [List.drop_zero, List.drop_succ_cons, List.take_succ_cons, List.take_zero, List.cons.injEq, and_true] at q0 q1 q2
    subst q0 q1 q2
    exact ⟨⟨v0, v1, v2⟩, rfl, ⟨(u8_of w0).1, (u8_of w0).2, (u8_of w1).1, (u8_of w1).2, (u8_of w2).1, (u8_of w2).2⟩⟩
set_option maxRecDepth 100000 in
theorem open_u8s {base : Nat} {v : Value} {d : DataW H} {p : List MemPlace} (hv : Value.okWide Try.prog W .any base 51 v) (h : DataW.Trod enc Try.prog W b0 sp held 51 v d p) (hw : (d.weights Try.prog 51).all (· ≤ reachBytes) = true) :
    ∃ (ao : Option Addr) (n cap : Nat) (l : List Int), v = .slice ao n cap ∧ Arr W 1 ao n cap (l.map u8E) ∧ ∀ x ∈ l, 0 ≤ x ∧ x ≤ 255 := by
  obtain ⟨ao, n, cap, e⟩ := wide_slice Try.underlying51 hv
  subst e
  obtain ⟨fuel, hf⟩ := h
  have hr : RD enc W b0 sp held 51 [.slice ao n cap] := ⟨fuel, _, hf, hw⟩
  obtain ⟨ao', n', cap', l, e, hA, hg, _⟩ := RD.list u8E (fun x => 0 ≤ x ∧ x ≤ 255) Try.underlying51 rdc_u8 rdc_u8B (by decide) u8_elems (fun cs hl hr => by
    obtain ⟨i, rfl, hi⟩ := hr.int Try.underlying5
    exact ⟨i, rfl, u8_of hi⟩) hr
  cases e
  exact ⟨ao, n, cap, l, rfl, hA, hg⟩
set_option maxRecDepth 100000 in
theorem open_parts {base : Nat} {v : Value} {d : DataW H} {p : List MemPlace} (hv : Value.okWide Try.prog W .any base 52 v) (h : DataW.Trod enc Try.prog W b0 sp held 52 v d p) (hw : (d.weights Try.prog 52).all (· ≤ reachBytes) = true) :
    ∃ (ao : Option Addr) (n cap : Nat) (l : List PartA), v = .slice ao n cap ∧ Arr W 3 ao n cap (l.map PartA.l) ∧ ∀ x ∈ l, x.Ok := by
  obtain ⟨ao, n, cap, e⟩ := wide_slice Try.underlying52 hv
  subst e
  obtain ⟨fuel, hf⟩ := h
  have hr : RD enc W b0 sp held 52 [.slice ao n cap] := ⟨fuel, _, hf, hw⟩
  obtain ⟨ao', n', cap', l, e, hA, hg, _⟩ := RD.list PartA.l PartA.Ok Try.underlying52 rdc_part rdc_partB (by decide) part_elems (fun cs hl hr => rd_part hl hr) hr
  cases e
  exact ⟨ao, n, cap, l, rfl, hA, hg⟩
end
end Go.Proofs.Yteibnignjghedaa
