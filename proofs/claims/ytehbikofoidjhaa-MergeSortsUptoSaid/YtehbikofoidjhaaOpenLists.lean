/-
  Opening a law's argument that is a list of lists of cells.
-/
import Derived.Test.YtehbikofoidjhaaOpenCells
import Derived.Test.YtehbikofoidjhaaShortW
namespace Go.Proofs.Ytehbikofoidjhaa
open Go.ChangeShapes Go.WideShapes Go.ChangeAt Go.RowKit Go.Joins Go.Deep

section
variable {H : Type} {enc : TypeId × Value → H} {P : Program} {w : World} {base : Nat} {sp : Nat → Bool} {held : Bool} {r : Reach} {b0 : Nat} {t e : TypeId} {v : Value} {d : DataW H} {p : List MemPlace}

/-- A slice: of no element; or its elements' cells, each element's reading. -/
theorem open_slice_u (ht : P.underlying t = some (.slice e)) {fuel : Nat} {y0 : DataW H × List MemPlace} (hf : DataW.trod enc P w base sp held fuel t [v] = some y0) (hC : 0 < P.cellsOf e) :
    (∃ ao cap, v = .slice ao 0 cap ∧ cap ≤ maxLen) ∨
    ∃ b off len cap, v = .slice (some ⟨b, off, none⟩) len cap ∧ 0 < len ∧ len ≤ cap ∧ cap ≤ maxLen ∧
      ∀ i, i < len → ∃ (cs : List Value) (n : Nat) (y : DataW H × List MemPlace), cs.length = P.cellsOf e ∧ (∀ j, j < P.cellsOf e → w.cell? ⟨b, off + i * P.cellsOf e + j, none⟩ = cs[j]?) ∧ DataW.trod enc P w base sp held n e cs = some y := by
  rcases open_slice ht hf with ⟨hcs, _⟩ | ⟨a, len0, cap0, m, n, D, Pl, hcs, _, hl, hm, hmm, _, hi⟩
  · simp only [List.cons.injEq, and_true] at hcs
    subst hcs
    exact .inl ⟨_, 0, rfl, by unfold maxLen; omega⟩
  · simp only [List.cons.injEq, and_true] at hcs
    subst hcs
    rcases Nat.eq_zero_or_pos len0 with rfl | hp
    · exact .inl ⟨_, _, rfl, hm⟩
    · right
      have hlm : len0 ≤ m := by rw [hmm]; split <;> omega
      obtain ⟨cs0, hc0, _⟩ := hi 0 (by omega)
      obtain ⟨_, hcl, hg0⟩ := World.cells?_some hc0
      obtain ⟨b, off, rfl⟩ : ∃ b off, a = ⟨b, off, none⟩ := by
        have h1 := hg0 0 hC
        rw [List.getElem?_eq_getElem (by omega), Nat.zero_mul] at h1
        have e0 : (a.add 0).add 0 = a := by simp [Addr.add]
        rw [e0] at h1
        exact addr_of_cell h1
      refine ⟨b, off, len0, cap0, rfl, hp, hl, hm, fun i hil => ?_⟩
      obtain ⟨cs, hc, htr⟩ := hi i (by omega)
      obtain ⟨_, hl1, hg⟩ := World.cells?_some hc
      refine ⟨cs, n, _, hl1, fun j hj => ?_, htr⟩
      have := hg j hj
      rw [Go.Deep.add_add, Addr.add_lit, ← Nat.add_assoc] at this
      exact this

/-- .. of structs whose fields have one cell each. -/
theorem open_slice_structs_u {fs : Array Field} (ht : P.underlying t = some (.slice e)) (he : P.underlying e = some (.struct fs)) (hone : oneCellFields P fs = true) (hC : P.cellsOf e = fs.size) (h0 : 0 < fs.size)
    {fuel : Nat} {y0 : DataW H × List MemPlace} (hf0 : DataW.trod enc P w base sp held fuel t [v] = some y0) :
    (∃ ao cap, v = .slice ao 0 cap ∧ cap ≤ maxLen) ∨
    ∃ b off len cap, v = .slice (some ⟨b, off, none⟩) len cap ∧ 0 < len ∧ len ≤ cap ∧ cap ≤ maxLen ∧
      ∀ i, i < len → ∀ (j : Nat) (f : Field), fs[j]? = some f → ∃ n y u, w.cell? ⟨b, off + i * fs.size + j, none⟩ = some u ∧ DataW.trod enc P w base sp held n f.type [u] = some y := by
  rcases open_slice_u ht hf0 (by omega) with h1 | ⟨b, off, len, cap, rfl, h1, h2, h3, h4⟩
  · exact .inl h1
  · refine .inr ⟨b, off, len, cap, rfl, h1, h2, h3, fun i hi j f hj => ?_⟩
    obtain ⟨cs, n, y, hl, hc, htr⟩ := h4 i hi
    rw [hC] at hl hc
    obtain ⟨ys, n', _, _, hlen, hyl, hf⟩ := DataW.trod_struct he htr
    have hjl : j < fs.size := (Array.getElem?_eq_some_iff.1 hj).1
    obtain ⟨ho, hk⟩ := hone_of hone j f hj
    have h5 := hf j f hj
    have hys : ys[j]? = some (ys[j]'(by omega)) := List.getElem?_eq_getElem (by omega)
    have e1 : (cs.drop j).take 1 = [cs[j]'(by omega)] := by
      rw [List.drop_eq_getElem_cons (by omega)]; rfl
    rw [ho, hk, hys, e1] at h5
    exact ⟨n', _, cs[j]'(by omega), by rw [hc j hjl]; exact List.getElem?_eq_getElem (by omega), h5⟩

end

/-- A list of cells that came in. -/
theorem open_cells_u {H : Type} {enc : TypeId × Value → H} {W : World} {b0 : Nat} {sp : Nat → Bool} {held : Bool} {v : Value} {fuel : Nat} {y0 : DataW H × List MemPlace}
    (hf0 : DataW.trod enc Try.prog W b0 sp held fuel 29 [v] = some y0) :
    ∃ ao len cap cs, v = .slice ao len cap ∧ Cells W ao len cap cs ∧ ∀ c ∈ cs, c.Ok := by
  rcases open_slice_structs_u Try.underlying29 Try.underlying37 (by kernel_rfl) cells_cell (by decide) hf0 with ⟨ao, cap, rfl, hm⟩ | ⟨b, off, len, cap, rfl, h2, h3, h4, hc⟩
  · exact ⟨ao, 0, cap, [], rfl, ⟨fun _ h => by simp at h, rfl, Nat.zero_le _, hm, fun h => by omega⟩, fun r hr => by simp at hr⟩
  · obtain ⟨cs, hl, hp⟩ := list_of (fun i (x : CellA) => x.Ok ∧ CellAt W b (off + i * 5) x) len (by
      intro i hi
      obtain ⟨n0, y0, u0, c0, t0⟩ := hc i hi 0 _ rfl
      obtain ⟨n1, y1, u1, c1, t1⟩ := hc i hi 1 _ rfl
      obtain ⟨n2, y2, u2, c2, t2⟩ := hc i hi 2 _ rfl
      obtain ⟨n3, y3, u3, c3, t3⟩ := hc i hi 3 _ rfl
      obtain ⟨n4, y4, u4, c4, t4⟩ := hc i hi 4 _ rfl
      obtain ⟨s0, q0, _, w0⟩ := DataW.trod_string Try.underlying9 t0
      obtain ⟨s1, q1, _, w1⟩ := DataW.trod_string Try.underlying9 t1
      obtain ⟨s2, q2, _, w2⟩ := DataW.trod_int Try.underlying35 t2
      obtain ⟨s3, q3, _⟩ := DataW.trod_bool Try.underlying4 t3
      obtain ⟨s4, q4, _, w4⟩ := DataW.trod_string Try.underlying9 t4
      simp only [List.cons.injEq, and_true] at q0 q1 q2 q3 q4
      subst q0 q1 q2 q3 q4
      have hb : 0 ≤ s2 ∧ s2 ≤ 18446744073709551615 := by
        simpa [Lit.wf, IntKind.min, IntKind.max, IntKind.signed, IntKind.bits] using w2
      exact ⟨⟨s0, s1, s2, s3, s4⟩, ⟨w0, w1, w4, hb.1, hb.2⟩, ⟨c0, c1, c2, c3, c4⟩⟩)
    have hget : ∀ x ∈ cs, ∃ i, cs[i]? = some x := fun x hx => List.mem_iff_getElem?.1 hx
    obtain ⟨x0, hx0⟩ : ∃ x, cs[0]? = some x := ⟨_, List.getElem?_eq_getElem (by omega)⟩
    refine ⟨_, len, cap, cs, rfl, ⟨cellE_elems cs, by simpa using hl, h3, h4, fun _ => ⟨b, off, rfl, World.block_lt_of_cell? _ _ (hp 0 x0 hx0).2.c0, ?_⟩⟩, fun x hx => by obtain ⟨i, hi⟩ := hget x hx; exact (hp i x hi).1⟩
    intro i e he j u hu
    rw [List.getElem?_map] at he
    cases hx : cs[i]? with
    | none => rw [hx] at he; cases he
    | some x =>
      rw [hx] at he
      simp only [Option.map_some, Option.some.injEq] at he
      subst he
      obtain ⟨k0, k1, k2, k3, k4⟩ := (hp i x hx).2
      match j, hu with
      | 0, hu => simp only [cellE, List.getElem?_cons_zero, Option.some.injEq] at hu; subst hu; exact k0
      | 1, hu => simp only [cellE, List.getElem?_cons_succ, List.getElem?_cons_zero, Option.some.injEq] at hu; subst hu; exact k1
      | 2, hu => simp only [cellE, List.getElem?_cons_succ, List.getElem?_cons_zero, Option.some.injEq] at hu; subst hu; exact k2
      | 3, hu => simp only [cellE, List.getElem?_cons_succ, List.getElem?_cons_zero, Option.some.injEq] at hu; subst hu; exact k3
      | 4, hu => simp only [cellE, List.getElem?_cons_succ, List.getElem?_cons_zero, Option.some.injEq] at hu; subst hu; exact k4
      | j + 5, hu => simp [cellE] at hu


theorem cells_list : Try.prog.cellsOf 29 = 1 := by kernel_rfl
/-- A list of lists of cells that came in. -/
theorem open_lists_ok {H : Type} {enc : TypeId × Value → H} {W : World} {base b0 : Nat} {sp : Nat → Bool} {held : Bool} {v : Value} {d : DataW H} {p : List MemPlace}
    (hv : Value.okWide Try.prog W .any base 22 v) (h : DataW.Trod enc Try.prog W b0 sp held 22 v d p) :
    ∃ ao len cap es, v = .slice ao len cap ∧ LLs W ao len cap es ∧ ∀ s ∈ es, ∀ c ∈ s.cs, c.Ok := by
  rcases open_slice_plain Try.underlying22 cells_list hv h with ⟨ao, cap, rfl, hm⟩ | ⟨b, off, len, cap, rfl, h2, h3, h4, hc⟩
  · exact ⟨ao, 0, cap, [], rfl, ⟨⟨fun _ h => by simp at h, rfl, Nat.zero_le _, hm, fun h => by omega⟩, fun r hr => by simp at hr⟩, fun r hr => by simp at hr⟩
  · obtain ⟨es, hl, hp⟩ := list_of (fun i (x : LI) => (x.Ok W ∧ W.cell? ⟨b, off + i, none⟩ = some x.v) ∧ ∀ c ∈ x.cs, c.Ok) len (by
      intro i hi
      obtain ⟨n0, y0, u, c0, t0⟩ := hc i hi
      obtain ⟨ao, l2, cap2, cs, rfl, hcs, hck⟩ := open_cells_u t0
      exact ⟨⟨ao, l2, cap2, cs⟩, ⟨hcs, c0⟩, hck⟩)
    have hget : ∀ x ∈ es, ∃ i, es[i]? = some x := fun x hx => List.mem_iff_getElem?.1 hx
    obtain ⟨x0, hx0⟩ : ∃ x, es[0]? = some x := ⟨_, List.getElem?_eq_getElem (by omega)⟩
    refine ⟨_, len, cap, es, rfl, ⟨⟨liE_elems es, by simpa using hl, h3, h4, fun _ => ⟨b, off, rfl, World.block_lt_of_cell? _ _ (hp 0 x0 hx0).1.2, ?_⟩⟩, fun x hx => by obtain ⟨i, hi⟩ := hget x hx; exact (hp i x hi).1.1⟩, fun x hx => by obtain ⟨i, hi⟩ := hget x hx; exact (hp i x hi).2⟩
    intro i e he j u hu
    rw [List.getElem?_map] at he
    cases hx : es[i]? with
    | none => rw [hx] at he; cases he
    | some x =>
      rw [hx] at he
      simp only [Option.map_some, Option.some.injEq] at he
      subst he
      have k0 := (hp i x hx).1.2
      match j, hu with
      | 0, hu =>
        simp only [LI.e, List.getElem?_cons_zero, Option.some.injEq] at hu
        subst hu
        simpa using k0
      | j + 1, hu => simp [LI.e] at hu
theorem open_lists {H : Type} {enc : TypeId × Value → H} {W : World} {base b0 : Nat} {sp : Nat → Bool} {held : Bool} {v : Value} {d : DataW H} {p : List MemPlace}
    (hv : Value.okWide Try.prog W .any base 22 v) (h : DataW.Trod enc Try.prog W b0 sp held 22 v d p) :
    ∃ ao len cap es, v = .slice ao len cap ∧ LLs W ao len cap es := by
  obtain ⟨ao, len, cap, es, h1, h2, _⟩ := open_lists_ok hv h
  exact ⟨ao, len, cap, es, h1, h2⟩
end Go.Proofs.Ytehbikofoidjhaa
