/-
  Opening a law's argument that is a text, a slice of structs (each field of one cell), a slice of plain elements.
-/
import Derived.Test.YtehbikofoidjhaaLift
import Derived.Deep.Slices
import Derived.Lib.SmallJoins
namespace Go.Proofs.Ytehbikofoidjhaa
open Go.ChangeShapes Go.WideShapes Go.ChangeAt Go.RowKit Go.Joins Go.Deep

/-- For each number below n something: then a list of such things. -/
theorem list_of {α : Type} (P : Nat → α → Prop) : ∀ n, (∀ i, i < n → ∃ x, P i x) → ∃ l : List α, l.length = n ∧ ∀ i x, l[i]? = some x → P i x
  | 0, _ => ⟨[], rfl, fun i x h => by simp at h⟩
  | n + 1, h => by
    obtain ⟨l, hl, hp⟩ := list_of P n (fun i hi => h i (by omega))
    obtain ⟨x, hx⟩ := h n (by omega)
    refine ⟨l ++ [x], by simp [hl], fun i y hy => ?_⟩
    rw [List.getElem?_append] at hy
    split at hy
    · exact hp i y hy
    · rename_i hi
      have : i = n := by
        have := (List.getElem?_eq_some_iff.1 hy).1
        simp at this; omega
      subst this
      simp [hl] at hy
      exact hy ▸ hx

theorem addr_of_cell {w : World} {a : Addr} {v : Value} (h : w.cell? a = some v) : ∃ b off, a = ⟨b, off, none⟩ := by
  obtain ⟨b, off, sp⟩ := a
  have : sp = none := by simpa using World.cell?_spot h
  exact ⟨b, off, by rw [this]⟩

section
variable {H : Type} {enc : TypeId × Value → H} {P : Program} {w : World} {base : Nat} {sp : Nat → Bool} {held : Bool} {r : Reach} {b0 : Nat} {t e : TypeId} {v : Value} {d : DataW H} {p : List MemPlace}

/-- A slice: of no element; or its elements' cells, each element's reading. -/
theorem open_slice_any (ht : P.underlying t = some (.slice e)) (hv : Value.okWide P w r b0 t v) (h : DataW.Trod enc P w base sp held t v d p) (hC : 0 < P.cellsOf e) :
    (∃ ao cap, v = .slice ao 0 cap ∧ cap ≤ maxLen) ∨
    ∃ b off len cap, v = .slice (some ⟨b, off, none⟩) len cap ∧ 0 < len ∧ len ≤ cap ∧ cap ≤ maxLen ∧
      ∀ i, i < len → ∃ (cs : List Value) (n : Nat) (y : DataW H × List MemPlace), cs.length = P.cellsOf e ∧ (∀ j, j < P.cellsOf e → w.cell? ⟨b, off + i * P.cellsOf e + j, none⟩ = cs[j]?) ∧ DataW.trod enc P w base sp held n e cs = some y := by
  obtain ⟨a0, len0, cap0, rfl⟩ := okWide_slice ht hv
  obtain ⟨fuel, hf⟩ := h
  rcases open_slice ht hf with ⟨hcs, _⟩ | ⟨a, len, cap, m, n, D, Pl, hcs, _, hl, hm, hmm, _, hi⟩
  · simp [Value.cells] at hcs
    obtain ⟨rfl, rfl, rfl⟩ := hcs
    exact .inl ⟨_, 0, rfl, by unfold maxLen; omega⟩
  · simp [Value.cells] at hcs
    obtain ⟨rfl, rfl, rfl⟩ := hcs
    rcases Nat.eq_zero_or_pos len0 with rfl | hp
    · exact .inl ⟨_, _, rfl, hm⟩
    · right
      have hlm : len0 ≤ m := by rw [hmm]; split <;> omega
      obtain ⟨cs0, hc0, _⟩ := hi 0 (by omega)
      obtain ⟨_, hcl, hg0⟩ := World.cells?_some hc0
      obtain ⟨b, off, rfl⟩ : ∃ b off, a = ⟨b, off, none⟩ := by
        have h1 := hg0 0 hC
        rw [List.getElem?_eq_getElem (by omega), Nat.zero_mul] at h1
        have e0 : (a.add 0).add 0 = a := by simp [Addr.add]
        rw [e0] at h1
        exact addr_of_cell h1
      refine ⟨b, off, len0, cap0, rfl, hp, hl, hm, fun i hil => ?_⟩
      obtain ⟨cs, hc, htr⟩ := hi i (by omega)
      obtain ⟨_, hl1, hg⟩ := World.cells?_some hc
      refine ⟨cs, n, _, hl1, fun j hj => ?_, htr⟩
      have := hg j hj
      rw [Go.Deep.add_add, Addr.add_lit, ← Nat.add_assoc] at this
      exact this

/-- .. of structs whose fields have one cell each. -/
theorem open_slice_structs {fs : Array Field} (ht : P.underlying t = some (.slice e)) (he : P.underlying e = some (.struct fs)) (hone : oneCellFields P fs = true) (hC : P.cellsOf e = fs.size) (h0 : 0 < fs.size)
    (hv : Value.okWide P w r b0 t v) (h : DataW.Trod enc P w base sp held t v d p) :
    (∃ ao cap, v = .slice ao 0 cap ∧ cap ≤ maxLen) ∨
    ∃ b off len cap, v = .slice (some ⟨b, off, none⟩) len cap ∧ 0 < len ∧ len ≤ cap ∧ cap ≤ maxLen ∧
      ∀ i, i < len → ∀ (j : Nat) (f : Field), fs[j]? = some f → ∃ n y u, w.cell? ⟨b, off + i * fs.size + j, none⟩ = some u ∧ DataW.trod enc P w base sp held n f.type [u] = some y := by
  rcases open_slice_any ht hv h (by omega) with h1 | ⟨b, off, len, cap, rfl, h1, h2, h3, h4⟩
  · exact .inl h1
  · refine .inr ⟨b, off, len, cap, rfl, h1, h2, h3, fun i hi j f hj => ?_⟩
    obtain ⟨cs, n, y, hl, hc, htr⟩ := h4 i hi
    rw [hC] at hl hc
    obtain ⟨ys, n', _, _, hlen, hyl, hf⟩ := DataW.trod_struct he htr
    have hjl : j < fs.size := (Array.getElem?_eq_some_iff.1 hj).1
    obtain ⟨ho, hk⟩ := hone_of hone j f hj
    have h5 := hf j f hj
    have hys : ys[j]? = some (ys[j]'(by omega)) := List.getElem?_eq_getElem (by omega)
    have e1 : (cs.drop j).take 1 = [cs[j]'(by omega)] := by
      rw [List.drop_eq_getElem_cons (by omega)]; rfl
    rw [ho, hk, hys, e1] at h5
    exact ⟨n', _, cs[j]'(by omega), by rw [hc j hjl]; exact List.getElem?_eq_getElem (by omega), h5⟩

/-- .. of elements of one cell. -/
theorem open_slice_plain (ht : P.underlying t = some (.slice e)) (hC : P.cellsOf e = 1) (hv : Value.okWide P w r b0 t v) (h : DataW.Trod enc P w base sp held t v d p) :
    (∃ ao cap, v = .slice ao 0 cap ∧ cap ≤ maxLen) ∨
    ∃ b off len cap, v = .slice (some ⟨b, off, none⟩) len cap ∧ 0 < len ∧ len ≤ cap ∧ cap ≤ maxLen ∧
      ∀ i, i < len → ∃ n y u, w.cell? ⟨b, off + i, none⟩ = some u ∧ DataW.trod enc P w base sp held n e [u] = some y := by
  rcases open_slice_any ht hv h (by omega) with h1 | ⟨b, off, len, cap, rfl, h1, h2, h3, h4⟩
  · exact .inl h1
  · refine .inr ⟨b, off, len, cap, rfl, h1, h2, h3, fun i hi => ?_⟩
    obtain ⟨cs, n, y, hl, hc, htr⟩ := h4 i hi
    rw [hC] at hl hc
    match cs, hl with
    | [u], _ =>
      have := hc 0 (by omega)
      simp at this
      exact ⟨n, y, u, this, htr⟩
end

end Go.Proofs.Ytehbikofoidjhaa
