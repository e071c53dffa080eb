/-
  Opening a law's argument that is a slice of cells; its weight.
-/
import Derived.Test.YtehbikofoidjhaaOpenSlice
import Derived.Test.YtehbikofoidjhaaCellW
import Derived.SizedLaws
namespace Go.Proofs.Ytehbikofoidjhaa
open Go.ChangeShapes Go.WideShapes Go.ChangeAt Go.RowKit Go.Joins Go.Deep

/-- What a slice weighs: its elements' bytes. -/
theorem slice_weight {H : Type} {enc : TypeId × Value → H} {P : Program} {w : World} {base : Nat} {sp : Nat → Bool} {held : Bool} {t e : TypeId} {ao : Option Addr} {len cap : Nat} {d : DataW H} {p : List MemPlace}
    (ht : P.underlying t = some (.slice e)) (h : DataW.Trod enc P w base sp held t (.slice ao len cap) d p) {B : Nat} (hw : (d.weights P t).all (· ≤ B) = true) : len * P.bytesOf e ≤ B := by
  obtain ⟨fuel, hf⟩ := h
  rcases open_slice ht hf with ⟨hcs, _⟩ | ⟨a, len', cap', m, n, D, Pl, hcs, _, hl, hm, hmm, hx, _⟩
  · simp [Value.cells] at hcs
    obtain ⟨_, rfl, _⟩ := hcs
    omega
  · simp [Value.cells] at hcs
    obtain ⟨_, rfl, _⟩ := hcs
    have hd : d = .slice ((List.range len).map D) ((List.range (m - len)).map fun j => D (len + j)) := congrArg Prod.fst hx
    subst hd
    have h1 := List.all_eq_true.1 hw ((((List.range len).map D).length + ((List.range (m - len)).map fun j => D (len + j)).length) * P.bytesOf e) (by simp [DataW.weights, ht])
    simp only [List.length_map, List.length_range, decide_eq_true_eq] at h1
    exact Nat.le_trans (Nat.mul_le_mul_right _ (by omega)) h1

theorem cells_cell : Try.prog.cellsOf 37 = 5 := by kernel_rfl
theorem bytes_cell : Try.prog.bytesOf 37 = 64 := by kernel_rfl

/-- A list of cells that came in. -/
theorem open_cells {H : Type} {enc : TypeId × Value → H} {W : World} {base b0 : Nat} {sp : Nat → Bool} {held : Bool} {v : Value} {d : DataW H} {p : List MemPlace}
    (hv : Value.okWide Try.prog W .any base 29 v) (h : DataW.Trod enc Try.prog W b0 sp held 29 v d p) :
    ∃ ao len cap cs, v = .slice ao len cap ∧ Cells W ao len cap cs ∧ ∀ c ∈ cs, c.Ok := by
  rcases open_slice_structs Try.underlying29 Try.underlying37 (by kernel_rfl) cells_cell (by decide) hv h with ⟨ao, cap, rfl, hm⟩ | ⟨b, off, len, cap, rfl, h2, h3, h4, hc⟩
  · exact ⟨ao, 0, cap, [], rfl, ⟨fun _ h => by simp at h, rfl, Nat.zero_le _, hm, fun h => by omega⟩, fun r hr => by simp at hr⟩
  · obtain ⟨cs, hl, hp⟩ := list_of (fun i (x : CellA) => x.Ok ∧ CellAt W b (off + i * 5) x) len (by
      intro i hi
      obtain ⟨n0, y0, u0, c0, t0⟩ := hc i hi 0 _ rfl
      obtain ⟨n1, y1, u1, c1, t1⟩ := hc i hi 1 _ rfl
      obtain ⟨n2, y2, u2, c2, t2⟩ := hc i hi 2 _ rfl
      obtain ⟨n3, y3, u3, c3, t3⟩ := hc i hi 3 _ rfl
      obtain ⟨n4, y4, u4, c4, t4⟩ := hc i hi 4 _ rfl
      obtain ⟨s0, q0, _, w0⟩ := DataW.trod_string Try.underlying9 t0
      obtain ⟨s1, q1, _, w1⟩ := DataW.trod_string Try.underlying9 t1
      obtain ⟨s2, q2, _, w2⟩ := DataW.trod_int Try.underlying35 t2
      obtain ⟨s3, q3, _⟩ := DataW.trod_bool Try.underlying4 t3
      obtain ⟨s4, q4, _, w4⟩ := DataW.trod_string Try.underlying9 t4
      simp only [List.cons.injEq, and_true] at q0 q1 q2 q3 q4
      subst q0 q1 q2 q3 q4
      have hb : 0 ≤ s2 ∧ s2 ≤ 18446744073709551615 := by
        simpa [Lit.wf, IntKind.min, IntKind.max, IntKind.signed, IntKind.bits] using w2
      exact ⟨⟨s0, s1, s2, s3, s4⟩, ⟨w0, w1, w4, hb.1, hb.2⟩, ⟨c0, c1, c2, c3, c4⟩⟩)
    have hget : ∀ x ∈ cs, ∃ i, cs[i]? = some x := fun x hx => List.mem_iff_getElem?.1 hx
    obtain ⟨x0, hx0⟩ : ∃ x, cs[0]? = some x := ⟨_, List.getElem?_eq_getElem (by omega)⟩
    refine ⟨_, len, cap, cs, rfl, ⟨cellE_elems cs, by simpa using hl, h3, h4, fun _ => ⟨b, off, rfl, World.block_lt_of_cell? _ _ (hp 0 x0 hx0).2.c0, ?_⟩⟩, fun x hx => by obtain ⟨i, hi⟩ := hget x hx; exact (hp i x hi).1⟩
    intro i e he j u hu
    rw [List.getElem?_map] at he
    cases hx : cs[i]? with
    | none => rw [hx] at he; cases he
    | some x =>
      rw [hx] at he
      simp only [Option.map_some, Option.some.injEq] at he
      subst he
      obtain ⟨k0, k1, k2, k3, k4⟩ := (hp i x hx).2
      match j, hu with
      | 0, hu => simp only [cellE, List.getElem?_cons_zero, Option.some.injEq] at hu; subst hu; exact k0
      | 1, hu => simp only [cellE, List.getElem?_cons_succ, List.getElem?_cons_zero, Option.some.injEq] at hu; subst hu; exact k1
      | 2, hu => simp only [cellE, List.getElem?_cons_succ, List.getElem?_cons_zero, Option.some.injEq] at hu; subst hu; exact k2
      | 3, hu => simp only [cellE, List.getElem?_cons_succ, List.getElem?_cons_zero, Option.some.injEq] at hu; subst hu; exact k3
      | 4, hu => simp only [cellE, List.getElem?_cons_succ, List.getElem?_cons_zero, Option.some.injEq] at hu; subst hu; exact k4
      | j + 5, hu => simp [cellE] at hu

end Go.Proofs.Ytehbikofoidjhaa
