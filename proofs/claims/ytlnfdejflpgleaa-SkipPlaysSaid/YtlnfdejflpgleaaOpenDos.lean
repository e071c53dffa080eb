/-
  Opening a law's argument that is a list of steps (a cell, a height, a number left behind).
-/
import Derived.Test.YtlnfdejflpgleaaOpenCells
import Derived.Test.YtlnfdejflpgleaaPlayP
namespace Go.Proofs.Ytlnfdejflpgleaa
open Go.ChangeShapes Go.WideShapes Go.ChangeAt Go.RowKit Go.Joins Go.Deep

section
variable {H : Type} {enc : TypeId × Value → H} {P : Program} {w : World} {base : Nat} {sp : Nat → Bool} {held : Bool} {t : TypeId}
/-- A struct's field, read. -/
theorem trod_field {fs : Array Field} (ht : P.underlying t = some (.struct fs)) {n : Nat} {cs : List Value} {y : DataW H × List MemPlace} (h : DataW.trod enc P w base sp held n t cs = some y) {j : Nat} {f : Field} (hj : fs[j]? = some f) {ft : TypeId} {o z : Nat} (hft : f.type = ft) (ho : f.offset = o) (hz : P.cellsOf ft = z) :
    ∃ n' y', DataW.trod enc P w base sp held n' ft ((cs.drop o).take z) = some y' := by
  obtain ⟨ys, n', _, _, _, hyl, hf⟩ := DataW.trod_struct ht h
  have h5 := hf j f hj
  have hjl := (Array.getElem?_eq_some_iff.1 hj).1
  rw [hft, ho, hz, List.getElem?_eq_getElem (by omega)] at h5
  exact ⟨n', _, h5⟩
end

theorem cells_do : Try.prog.cellsOf 45 = 7 := by kernel_rfl
theorem cells_strD : Try.prog.cellsOf 9 = 1 := by kernel_rfl
theorem cells_intD : Try.prog.cellsOf 3 = 1 := by kernel_rfl
theorem cells_u64D : Try.prog.cellsOf 24 = 1 := by kernel_rfl
theorem cells_boolD : Try.prog.cellsOf 4 = 1 := by kernel_rfl

theorem open_dos {H : Type} {enc : TypeId × Value → H} {W : World} {base b0 : Nat} {sp : Nat → Bool} {held : Bool} {v : Value} {d : DataW H} {p : List MemPlace}
    (hv : Value.okWide Try.prog W .any base 37 v) (h : DataW.Trod enc Try.prog W b0 sp held 37 v d p) :
    ∃ ao len cap ds, v = .slice ao len cap ∧ Dos W ao len cap ds ∧ ∀ d ∈ ds, d.c.Ok := by
  rcases open_slice_any Try.underlying37 hv h (by rw [cells_do]; decide) with ⟨ao, cap, rfl, hm⟩ | ⟨b, off, len, cap, rfl, h2, h3, h4, hc⟩
  · exact ⟨ao, 0, cap, [], rfl, ⟨fun _ h => by simp at h, rfl, Nat.zero_le _, hm, fun h => by omega⟩, fun r hr => by simp at hr⟩
  · rw [cells_do] at hc
    obtain ⟨cs, hl, hp⟩ := list_of (fun i (x : DoA) => x.c.Ok ∧ DoAt W b (off + i * 7) x) len (by
      intro i hi
      obtain ⟨cs, n, y, hcl, hcc, htr⟩ := hc i hi
      match cs, hcl with
      | [x0, x1, x2, x3, x4, x5, x6], _ =>
        obtain ⟨n0, y0, t0⟩ := trod_field Try.underlying45 htr (j := 0) (o := 0) (z := 5) rfl rfl rfl cells_cell
        obtain ⟨n5, y5, t5⟩ := trod_field Try.underlying45 htr (j := 1) (o := 5) (z := 1) rfl rfl rfl cells_intD
        obtain ⟨n6, y6, t6⟩ := trod_field Try.underlying45 htr (j := 2) (o := 6) (z := 1) rfl rfl rfl cells_intD
        obtain ⟨m0, z0, u0⟩ := trod_field Try.underlying26 t0 (j := 0) (o := 0) (z := 1) rfl rfl rfl cells_strD
        obtain ⟨m1, z1, u1⟩ := trod_field Try.underlying26 t0 (j := 1) (o := 1) (z := 1) rfl rfl rfl cells_strD
        obtain ⟨m2, z2, u2⟩ := trod_field Try.underlying26 t0 (j := 2) (o := 2) (z := 1) rfl rfl rfl cells_u64D
        obtain ⟨m3, z3, u3⟩ := trod_field Try.underlying26 t0 (j := 3) (o := 3) (z := 1) rfl rfl rfl cells_boolD
        obtain ⟨m4, z4, u4⟩ := trod_field Try.underlying26 t0 (j := 4) (o := 4) (z := 1) rfl rfl rfl cells_strD
        obtain ⟨s0, q0, _, w0⟩ := DataW.trod_string Try.underlying9 u0
        obtain ⟨s1, q1, _, w1⟩ := DataW.trod_string Try.underlying9 u1
        obtain ⟨s2, q2, _, w2⟩ := DataW.trod_int Try.underlying24 u2
        obtain ⟨s3, q3, _⟩ := DataW.trod_bool Try.underlying4 u3
        obtain ⟨s4, q4, _, w4⟩ := DataW.trod_string Try.underlying9 u4
        obtain ⟨s5, q5, _, _⟩ := DataW.trod_int Try.underlying3 t5
        obtain ⟨s6, q6, _, _⟩ := DataW.trod_int Try.underlying3 t6
        simp at q0 q1 q2 q3 q4 q5 q6
        subst q0 q1 q2 q3 q4 q5 q6
        have hb : 0 ≤ s2 ∧ s2 ≤ 18446744073709551615 := by
          simpa [Lit.wf, IntKind.min, IntKind.max, IntKind.signed, IntKind.bits] using w2
        exact ⟨⟨⟨s0, s1, s2, s3, s4⟩, s5, s6⟩, ⟨w0, w1, w4, hb.1, hb.2⟩, ⟨hcc 0 (by decide), hcc 1 (by decide), hcc 2 (by decide), hcc 3 (by decide), hcc 4 (by decide), hcc 5 (by decide), hcc 6 (by decide)⟩⟩)
    have hget : ∀ x ∈ cs, ∃ i, cs[i]? = some x := fun x hx => List.mem_iff_getElem?.1 hx
    obtain ⟨x0, hx0⟩ : ∃ x, cs[0]? = some x := ⟨_, List.getElem?_eq_getElem (by omega)⟩
    refine ⟨_, len, cap, cs, rfl, ⟨doE_elems cs, by simpa using hl, h3, h4, fun _ => ⟨b, off, rfl, World.block_lt_of_cell? _ _ (hp 0 x0 hx0).2.c0, ?_⟩⟩, fun x hx => by obtain ⟨i, hi⟩ := hget x hx; exact (hp i x hi).1⟩
    intro i e he j u hu
    rw [List.getElem?_map] at he
    cases hx : cs[i]? with
    | none => rw [hx] at he; cases he
    | some x =>
      rw [hx] at he
      simp only [Option.map_some, Option.some.injEq] at he
      subst he
      obtain ⟨k0, k1, k2, k3, k4, k5, k6⟩ := (hp i x hx).2
      match j, hu with
      | 0, hu => simp only [doE, List.getElem?_cons_zero, Option.some.injEq] at hu; subst hu; exact k0
      | 1, hu => simp only [doE, List.getElem?_cons_succ, List.getElem?_cons_zero, Option.some.injEq] at hu; subst hu; exact k1
      | 2, hu => simp only [doE, List.getElem?_cons_succ, List.getElem?_cons_zero, Option.some.injEq] at hu; subst hu; exact k2
      | 3, hu => simp only [doE, List.getElem?_cons_succ, List.getElem?_cons_zero, Option.some.injEq] at hu; subst hu; exact k3
      | 4, hu => simp only [doE, List.getElem?_cons_succ, List.getElem?_cons_zero, Option.some.injEq] at hu; subst hu; exact k4
      | 5, hu => simp only [doE, List.getElem?_cons_succ, List.getElem?_cons_zero, Option.some.injEq] at hu; subst hu; exact k5
      | 6, hu => simp only [doE, List.getElem?_cons_succ, List.getElem?_cons_zero, Option.some.injEq] at hu; subst hu; exact k6
      | j + 7, hu => simp [doE] at hu
end Go.Proofs.Ytlnfdejflpgleaa
