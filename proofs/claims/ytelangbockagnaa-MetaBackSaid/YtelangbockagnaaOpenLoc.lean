/-
  Opening a law's argument that is a place.
-/
import Derived.Test.YtelangbockagnaaOpenSlice
import Derived.Test.YtelangbockagnaaOpenKeys
import Derived.Test.YtelangbockagnaaMetaCW
namespace Go.Proofs.Ytelangbockagnaa
open Go.ChangeShapes Go.WideShapes Go.ChangeAt Go.RowKit Go.Joins Go.Deep

theorem cells_int1 : Try.prog.cellsOf 3 = 1 := by kernel_rfl
theorem cells_range2 : Try.prog.cellsOf 23 = 2 := by kernel_rfl
theorem cells_u641 : Try.prog.cellsOf 24 = 1 := by kernel_rfl
theorem cells_ints1 : Try.prog.cellsOf 25 = 1 := by kernel_rfl
theorem cells_str1 : Try.prog.cellsOf 9 = 1 := by kernel_rfl
theorem cells_loc5 : Try.prog.cellsOf 27 = 5 := by kernel_rfl

theorem open_ints {H : Type} {enc : TypeId × Value → H} {W : World} {base : Nat} {sp : Nat → Bool} {held : Bool} {fuel : Nat} {u : Value} {y : DataW H × List MemPlace}
    (h : DataW.trod enc Try.prog W base sp held fuel 25 [u] = some y) : ∃ ao n cap l, u = .slice ao n cap ∧ Ints W ao n cap l := by
  rcases open_slice Try.underlying25 h with ⟨hcs, _⟩ | ⟨a, len, cap, m, n, D, Pl, hcs, _, hl, hm, hmm, _, hi⟩
  · simp only [List.cons.injEq, and_true] at hcs
    exact ⟨none, 0, 0, [], hcs, Arr.nil _ _⟩
  · simp only [List.cons.injEq, and_true] at hcs
    subst hcs
    rcases Nat.eq_zero_or_pos len with rfl | hp
    · exact ⟨_, 0, cap, [], rfl, ⟨intE_elems _, rfl, Nat.zero_le _, hm, fun h => by omega⟩⟩
    have hlm : len ≤ m := by rw [hmm]; split <;> omega
    rw [cells_int1] at hi
    obtain ⟨cs0, hc0, _⟩ := hi 0 (by omega)
    obtain ⟨_, hcl, hg0⟩ := World.cells?_some hc0
    obtain ⟨b, off, rfl⟩ : ∃ b off, a = ⟨b, off, none⟩ := by
      have h1 := hg0 0 (by omega)
      rw [List.getElem?_eq_getElem (by omega)] at h1
      have e0 : (a.add (0 * 1)).add 0 = a := by simp [Addr.add]
      rw [e0] at h1
      exact addr_of_cell h1
    obtain ⟨l, hll, hp2⟩ := list_of (fun i (x : Int) => W.cell? ⟨b, off + i, none⟩ = some (.int .i64 x)) len (by
      intro i hil
      obtain ⟨cs, hc, htr⟩ := hi i (by omega)
      obtain ⟨_, hl1, hg⟩ := World.cells?_some hc
      match cs, hl1 with
      | [v], _ =>
        obtain ⟨s, q, _, _⟩ := DataW.trod_int Try.underlying3 htr
        simp only [List.cons.injEq, and_true] at q
        subst q
        have := hg 0 (by omega)
        rw [Go.Deep.add_add, Addr.add_lit, ← Nat.add_assoc] at this
        exact ⟨s, by simpa using this⟩)
    obtain ⟨x0, hx0⟩ : ∃ x, l[0]? = some x := ⟨_, List.getElem?_eq_getElem (by omega)⟩
    refine ⟨_, len, cap, l, rfl, ⟨intE_elems _, by simpa using hll, hl, hm, fun _ => ⟨b, off, rfl, World.block_lt_of_cell? _ _ (hp2 0 x0 hx0), ?_⟩⟩⟩
    intro i e he j u hu
    rw [List.getElem?_map] at he
    cases hx : l[i]? with
    | none => rw [hx] at he; cases he
    | some x =>
      rw [hx] at he
      simp only [Option.map_some, Option.some.injEq] at he
      subst he
      match j, hu with
      | 0, hu => simp only [intE, List.getElem?_cons_zero, Option.some.injEq] at hu; subst hu; simpa using hp2 i x hx
      | j + 1, hu => simp [intE] at hu

theorem open_loc {H : Type} {enc : TypeId × Value → H} {W : World} {base b0 : Nat} {sp : Nat → Bool} {held : Bool} {v : Value} {d : DataW H} {p : List MemPlace}
    (hv : Value.okWide Try.prog W .any base 27 v) (h : DataW.Trod enc Try.prog W b0 sp held 27 v d p) : ∃ c ao n cap, v = LocA.v c ao n cap ∧ Ints W ao n cap c.nd ∧ c.Ok := by
  obtain ⟨cs, rfl, hsz⟩ := okWide_struct Try.underlying27 hv
  obtain ⟨fuel, hf⟩ := h
  obtain ⟨ys, n, _, _, _, hlen, hg⟩ := DataW.trod_struct Try.underlying27 hf
  obtain ⟨l⟩ := cs
  rw [cells_loc5] at hsz
  have hsz' : l.length = 5 := by simpa using hsz
  have hlen' : ys.length = 4 := by simpa using hlen
  match l, hsz', ys, hlen' with
  | [x0, x1, x2, x3, x4], _, [y0, y1, y2, y3], _ =>
    have h0 : DataW.trod enc Try.prog W b0 sp held n 3 [x0] = some y0 := by simpa [Value.cells, cells_int1] using hg 0 _ rfl
    have h1 : DataW.trod enc Try.prog W b0 sp held n 23 [x1, x2] = some y1 := by simpa [Value.cells, cells_range2] using hg 1 _ rfl
    have h2 : DataW.trod enc Try.prog W b0 sp held n 24 [x3] = some y2 := by simpa [Value.cells, cells_u641] using hg 2 _ rfl
    have h3 : DataW.trod enc Try.prog W b0 sp held n 25 [x4] = some y3 := by simpa [Value.cells, cells_ints1] using hg 3 _ rfl
    obtain ⟨a, q0, _, _⟩ := DataW.trod_int Try.underlying3 h0
    obtain ⟨ep, q3, _, w3⟩ := DataW.trod_int Try.underlying24 h2
    obtain ⟨zs, n', _, _, _, hlen2, hg2⟩ := DataW.trod_struct Try.underlying23 h1
    have hlen2' : zs.length = 2 := by simpa using hlen2
    match zs, hlen2' with
    | [z0, z1], _ =>
      have k0 : DataW.trod enc Try.prog W b0 sp held n' 9 [x1] = some z0 := by simpa [Value.cells, cells_str1] using hg2 0 _ rfl
      have k1 : DataW.trod enc Try.prog W b0 sp held n' 9 [x2] = some z1 := by simpa [Value.cells, cells_str1] using hg2 1 _ rfl
      obtain ⟨lo, q1, _, w1⟩ := DataW.trod_string Try.underlying9 k0
      obtain ⟨hi, q2, _, w2⟩ := DataW.trod_string Try.underlying9 k1
      obtain ⟨ao, m, cap, nd, q4, hI⟩ := open_ints h3
      simp only [List.cons.injEq, and_true] at q0 q1 q2 q3
      subst q0 q1 q2 q3 q4
      have hb : 0 ≤ ep ∧ ep ≤ 18446744073709551615 := by
        simpa [Lit.wf, IntKind.min, IntKind.max, IntKind.signed, IntKind.bits] using w3
      exact ⟨⟨a, lo, hi, ep, nd⟩, ao, m, cap, rfl, hI, ⟨w1, w2, hb.1, hb.2⟩⟩
end Go.Proofs.Ytelangbockagnaa
