/-
  Opening a law's argument that is a cell (where lists of cells are opened, too).
-/
import Derived.Test.YtlnfdejflpgleaaOpenCells
namespace Go.Proofs.Ytlnfdejflpgleaa
open Go.ChangeShapes Go.WideShapes Go.ChangeAt Go.RowKit Go.Joins Go.Deep

/-- A struct by value whose fields have one cell each: its cells, and each one's reading. -/
theorem open_fields {H : Type} {enc : TypeId × Value → H} {P : Program} {w : World} {base b0 : Nat} {sp : Nat → Bool} {held : Bool} {r : Reach} {t : TypeId} {fs : Array Field} {v : Value} {d : DataW H} {p : List MemPlace}
    (hs : P.underlying t = some (.struct fs)) (hone : oneCellFields P fs = true) (hC : P.cellsOf t = fs.size) (hv : Value.okWide P w r b0 t v) (h : DataW.Trod enc P w base sp held t v d p) :
    ∃ cs : Array Value, v = .agg cs ∧ cs.size = fs.size ∧ ∀ (j : Nat) (f : Field), fs[j]? = some f → ∃ n y u, cs[j]? = some u ∧ DataW.trod enc P w base sp held n f.type [u] = some y := by
  obtain ⟨cs, rfl, hsz⟩ := okWide_struct hs hv
  obtain ⟨fuel, hf⟩ := h
  obtain ⟨ys, n, _, _, _, hlen, hg⟩ := DataW.trod_struct hs hf
  have hl : cs.size = fs.size := hsz.trans hC
  refine ⟨cs, rfl, hl, fun j f hj => ?_⟩
  have hjl : j < fs.size := (Array.getElem?_eq_some_iff.1 hj).1
  obtain ⟨ho, hk⟩ := hone_of hone j f hj
  have h1 := hg j f hj
  have hjc : j < cs.size := by omega
  have hys : ys[j]? = some (ys[j]'(by omega)) := List.getElem?_eq_getElem (by omega)
  refine ⟨n, ys[j]'(by omega), cs[j]'hjc, Array.getElem?_eq_getElem hjc, ?_⟩
  rw [ho, hk, hys] at h1
  have e : (cs.toList.drop j).take 1 = [cs[j]'hjc] := by
    rw [List.drop_eq_getElem_cons (by simpa using hjc)]; simp
  simpa [Value.cells, e] using h1


theorem open_cell {H : Type} {enc : TypeId × Value → H} {W : World} {base b0 : Nat} {sp : Nat → Bool} {held : Bool} {v : Value} {d : DataW H} {p : List MemPlace}
    (hv : Value.okWide Try.prog W .any base 26 v) (h : DataW.Trod enc Try.prog W b0 sp held 26 v d p) : ∃ c : CellA, v = c.v ∧ c.Ok := by
  obtain ⟨cs, rfl, hsz, hf⟩ := open_fields Try.underlying26 (by kernel_rfl) cells_cell hv h
  obtain ⟨l⟩ := cs
  obtain ⟨n0, y0, u0, e0, h0⟩ := hf 0 _ rfl
  obtain ⟨n1, y1, u1, e1, h1⟩ := hf 1 _ rfl
  obtain ⟨n2, y2, u2, e2, h2⟩ := hf 2 _ rfl
  obtain ⟨n3, y3, u3, e3, h3⟩ := hf 3 _ rfl
  obtain ⟨n4, y4, u4, e4, h4⟩ := hf 4 _ rfl
  obtain ⟨a, q0, _, wa⟩ := DataW.trod_string Try.underlying9 h0
  obtain ⟨b, q1, _, wb⟩ := DataW.trod_string Try.underlying9 h1
  obtain ⟨c, q2, _, wc⟩ := DataW.trod_int Try.underlying24 h2
  obtain ⟨g, q3, _⟩ := DataW.trod_bool Try.underlying4 h3
  obtain ⟨e, q4, _, we⟩ := DataW.trod_string Try.underlying9 h4
  simp only [List.cons.injEq, and_true] at q0 q1 q2 q3 q4
  subst q0 q1 q2 q3 q4
  have hl : l = [.string a, .string b, .int .u64 c, .bool g, .string e] := by
    simp only [List.getElem?_toArray] at e0 e1 e2 e3 e4
    have hsz' : l.length = 5 := by simpa using hsz
    match l, hsz' with
    | [x0, x1, x2, x3, x4], _ => simp at e0 e1 e2 e3 e4; rw [e0, e1, e2, e3, e4]
  subst hl
  have hb : 0 ≤ c ∧ c ≤ 18446744073709551615 := by
    simpa [Lit.wf, IntKind.min, IntKind.max, IntKind.signed, IntKind.bits] using wc
  exact ⟨⟨a, b, c, g, e⟩, rfl, ⟨wa, wb, we, hb.1, hb.2⟩⟩

end Go.Proofs.Ytlnfdejflpgleaa
