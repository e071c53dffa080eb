/-
  Opening a law's argument that is a list of ranges.
-/
import Derived.Test.YtdmepdjlfdigeaaKeysGapW
import Derived.Test.YtdmepdjlfdigeaaOpenSlice
import Derived.Test.YtdmepdjlfdigeaaOpenKeys
namespace Go.Proofs.Ytdmepdjlfdigeaa
open Go.ChangeShapes Go.WideShapes Go.ChangeAt Go.RowKit Go.Joins

/-- A list of ranges that came in. -/
theorem open_ranges {H : Type} {enc : TypeId × Value → H} {W : World} {base b0 : Nat} {sp : Nat → Bool} {held : Bool} {v : Value} {d : DataW H} {p : List MemPlace}
    (hv : Value.okWide Try.prog W .any base 34 v) (h : DataW.Trod enc Try.prog W b0 sp held 34 v d p) :
    ∃ ao len cap rs, v = .slice ao len cap ∧ Arr W 2 ao len cap (List.map rgE rs) ∧ ∀ r ∈ rs, r.1.size ≤ maxLen ∧ r.2.size ≤ maxLen := by
  rcases open_slice_structs Try.underlying34 Try.underlying23 (by kernel_rfl) cells_range (by decide) hv h with ⟨ao, cap, rfl, hm⟩ | ⟨b, off, len, cap, rfl, h2, h3, h4, hc⟩
  · exact ⟨ao, 0, cap, [], rfl, ⟨fun _ h => by simp at h, rfl, Nat.zero_le _, hm, fun h => by omega⟩, fun r hr => by simp at hr⟩
  · obtain ⟨rs, hl, hp⟩ := list_of (fun i (x : ByteArray × ByteArray) => (x.1.size ≤ maxLen ∧ x.2.size ≤ maxLen) ∧ W.cell? ⟨b, off + i * 2, none⟩ = some (.string x.1) ∧ W.cell? ⟨b, off + i * 2 + 1, none⟩ = some (.string x.2)) len (by
      intro i hi
      obtain ⟨n0, y0, u0, c0, t0⟩ := hc i hi 0 _ rfl
      obtain ⟨n1, y1, u1, c1, t1⟩ := hc i hi 1 _ rfl
      obtain ⟨s0, q0, _, w0⟩ := DataW.trod_string Try.underlying9 t0
      obtain ⟨s1, q1, _, w1⟩ := DataW.trod_string Try.underlying9 t1
      simp only [List.cons.injEq, and_true] at q0 q1
      subst q0 q1
      exact ⟨(s0, s1), ⟨w0, w1⟩, c0, c1⟩)
    have hget : ∀ x ∈ rs, ∃ i, rs[i]? = some x := fun x hx => List.mem_iff_getElem?.1 hx
    obtain ⟨x0, hx0⟩ : ∃ x, rs[0]? = some x := ⟨_, List.getElem?_eq_getElem (by omega)⟩
    refine ⟨_, len, cap, rs, rfl, ⟨rgE_elems rs, by simpa using hl, h3, h4, fun _ => ⟨b, off, rfl, World.block_lt_of_cell? _ _ (hp 0 x0 hx0).2.1, ?_⟩⟩, fun x hx => by obtain ⟨i, hi⟩ := hget x hx; exact (hp i x hi).1⟩
    intro i e he j u hu
    rw [List.getElem?_map] at he
    cases hx : rs[i]? with
    | none => rw [hx] at he; cases he
    | some x =>
      rw [hx] at he
      simp only [Option.map_some, Option.some.injEq] at he
      subst he
      match j, hu with
      | 0, hu => simp only [rgE, List.getElem?_cons_zero, Option.some.injEq] at hu; subst hu; exact (hp i x hx).2.1
      | 1, hu => simp only [rgE, List.getElem?_cons_succ, List.getElem?_cons_zero, Option.some.injEq] at hu; subst hu; exact (hp i x hx).2.2
      | j + 2, hu => simp [rgE] at hu

end Go.Proofs.Ytdmepdjlfdigeaa
