/-
  Opening a law's argument that is a list of places by small numbers, or one of them.
-/
import Derived.Test.YtihglmicgccgiaaOpenSlice
import Derived.Test.YtihglmicgccgiaaTblZ
namespace Go.Proofs.Ytihglmicgccgiaa
open Go.ChangeShapes Go.WideShapes Go.ChangeAt Go.RowKit Go.Joins Go.Deep

section
variable {H : Type} {enc : TypeId × Value → H} {P : Program} {w : World} {base : Nat} {sp : Nat → Bool} {held : Bool} {t : TypeId}
/-- A struct's field, read. -/
theorem trod_fieldS {fs : Array Field} (ht : P.underlying t = some (.struct fs)) {n : Nat} {cs : List Value} {y : DataW H × List MemPlace} (h : DataW.trod enc P w base sp held n t cs = some y) {j : Nat} {f : Field} (hj : fs[j]? = some f) {ft : TypeId} {o z : Nat} (hft : f.type = ft) (ho : f.offset = o) (hz : P.cellsOf ft = z) :
    ∃ n' y', DataW.trod enc P w base sp held n' ft ((cs.drop o).take z) = some y' := by
  obtain ⟨ys, n', _, _, _, hyl, hf⟩ := DataW.trod_struct ht h
  have h5 := hf j f hj
  have hjl := (Array.getElem?_eq_some_iff.1 hj).1
  rw [hft, ho, hz, List.getElem?_eq_getElem (by omega)] at h5
  exact ⟨n', _, h5⟩
end

theorem cells_spot : Try.prog.cellsOf 47 = 5 := by kernel_rfl
theorem cells_strS : Try.prog.cellsOf 9 = 1 := by kernel_rfl
theorem cells_u8S : Try.prog.cellsOf 5 = 1 := by kernel_rfl
theorem cells_boolS : Try.prog.cellsOf 4 = 1 := by kernel_rfl

theorem u8_ofS {i : Int} (h : (Lit.int .u8 i).wf = true) : ∃ u : UInt8, i = u.toNat := by
  have h2 : 0 ≤ i ∧ i ≤ 255 := by simpa [Lit.wf, IntKind.min, IntKind.max, IntKind.signed, IntKind.bits] using h
  refine ⟨UInt8.ofNat i.toNat, ?_⟩
  rw [UInt8.toNat_ofNat']
  omega

set_option maxRecDepth 100000 in
/-- one of them, by its cells -/
theorem read_spot {H : Type} {enc : TypeId × Value → H} {W : World} {b0 : Nat} {sp : Nat → Bool} {held : Bool} {n : Nat} {cs : List Value} {y : DataW H × List MemPlace} (hl : cs.length = 5)
    (htr : DataW.trod enc Try.prog W b0 sp held n 47 cs = some y) : ∃ x : SpotA, cs = spotE x ∧ x.val.size ≤ maxLen := by
  match cs, hl with
  | [x0, x1, x2, x3, x4], _ =>
    obtain ⟨m0, z0, u0⟩ := trod_fieldS Try.underlying47 htr (j := 0) (o := 0) (z := 1) rfl rfl rfl cells_u8S
    obtain ⟨m1, z1, u1⟩ := trod_fieldS Try.underlying47 htr (j := 1) (o := 1) (z := 1) rfl rfl rfl cells_u8S
    obtain ⟨m2, z2, u2⟩ := trod_fieldS Try.underlying47 htr (j := 2) (o := 2) (z := 1) rfl rfl rfl cells_u8S
    obtain ⟨m3, z3, u3⟩ := trod_fieldS Try.underlying47 htr (j := 3) (o := 3) (z := 1) rfl rfl rfl cells_boolS
    obtain ⟨m4, z4, u4⟩ := trod_fieldS Try.underlying47 htr (j := 4) (o := 4) (z := 1) rfl rfl rfl cells_strS
    obtain ⟨s0, q0, _, w0⟩ := DataW.trod_int Try.underlying5 u0
    obtain ⟨s1, q1, _, w1⟩ := DataW.trod_int Try.underlying5 u1
    obtain ⟨s2, q2, _, w2⟩ := DataW.trod_int Try.underlying5 u2
    obtain ⟨s3, q3, _⟩ := DataW.trod_bool Try.underlying4 u3
    obtain ⟨s4, q4, _, w4⟩ := DataW.trod_string Try.underlying9 u4
    simp at q0 q1 q2 q3 q4
    subst q0 q1 q2 q3 q4
    obtain ⟨r, rfl⟩ := u8_ofS w0
    obtain ⟨c, rfl⟩ := u8_ofS w1
    obtain ⟨v, rfl⟩ := u8_ofS w2
    exact ⟨⟨r, c, v, s3, s4⟩, rfl, w4⟩
set_option maxRecDepth 100000 in
theorem open_spots {H : Type} {enc : TypeId × Value → H} {W : World} {base b0 : Nat} {sp : Nat → Bool} {held : Bool} {v : Value} {d : DataW H} {p : List MemPlace}
    (hv : Value.okWide Try.prog W .any base 42 v) (h : DataW.Trod enc Try.prog W b0 sp held 42 v d p) :
    ∃ ao len cap ss, v = .slice ao len cap ∧ Spots W ao len cap ss ∧ ∀ x ∈ ss, x.val.size ≤ maxLen := by
  rcases open_slice_any Try.underlying42 hv h (by rw [cells_spot]; decide) with ⟨ao, cap, rfl, hm⟩ | ⟨b, off, len, cap, rfl, h2, h3, h4, hc⟩
  · exact ⟨ao, 0, cap, [], rfl, ⟨fun _ h => by simp at h, rfl, Nat.zero_le _, hm, fun h => by omega⟩, fun r hr => by simp at hr⟩
  · rw [cells_spot] at hc
    obtain ⟨cs, hl, hp⟩ := list_of (fun i (x : SpotA) => x.val.size ≤ maxLen ∧ ∀ j u, (spotE x)[j]? = some u → W.cell? ⟨b, off + i * 5 + j, none⟩ = some u) len (by
      intro i hi
      obtain ⟨cs, n, y, hcl, hcc, htr⟩ := hc i hi
      obtain ⟨x, rfl, hx⟩ := read_spot hcl htr
      refine ⟨x, hx, fun j u hu => ?_⟩
      have hj : j < 5 := (List.getElem?_eq_some_iff.1 hu).1
      exact (hcc j hj).trans hu)
    have hget : ∀ x ∈ cs, ∃ i, cs[i]? = some x := fun x hx => List.mem_iff_getElem?.1 hx
    obtain ⟨x0, hx0⟩ : ∃ x, cs[0]? = some x := ⟨_, List.getElem?_eq_getElem (by omega)⟩
    refine ⟨_, len, cap, cs, rfl, ⟨spotE_elems cs, by simpa using hl, h3, h4, fun _ => ⟨b, off, rfl, World.block_lt_of_cell? _ _ ((hp 0 x0 hx0).2 0 _ rfl), ?_⟩⟩, fun x hx => by obtain ⟨i, hi⟩ := hget x hx; exact (hp i x hi).1⟩
    intro i e he j u hu
    rw [List.getElem?_map] at he
    cases hx : cs[i]? with
    | none => rw [hx] at he; cases he
    | some x =>
      rw [hx] at he
      simp only [Option.map_some, Option.some.injEq] at he
      subst he
      exact (hp i x hx).2 j u hu
set_option maxRecDepth 100000 in
/-- one of them, by value -/
theorem open_spot {H : Type} {enc : TypeId × Value → H} {W : World} {base b0 : Nat} {sp : Nat → Bool} {held : Bool} {v : Value} {d : DataW H} {p : List MemPlace}
    (hv : Value.okWide Try.prog W .any base 47 v) (h : DataW.Trod enc Try.prog W b0 sp held 47 v d p) :
    ∃ x : SpotA, v = .agg ⟨spotE x⟩ ∧ x.val.size ≤ maxLen := by
  obtain ⟨cs, rfl, hsz⟩ := okWide_struct Try.underlying47 hv
  obtain ⟨fuel, hf⟩ := h
  rw [cells_spot] at hsz
  obtain ⟨x, hx, hm⟩ := read_spot (by simpa [Value.cells] using hsz) hf
  refine ⟨x, ?_, hm⟩
  obtain ⟨l⟩ := cs
  simp [Value.cells] at hx
  rw [hx]
end Go.Proofs.Ytihglmicgccgiaa
