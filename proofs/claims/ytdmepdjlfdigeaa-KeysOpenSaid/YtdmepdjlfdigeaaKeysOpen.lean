/-
  PROVED HERE: acreagelaw03.KeysOpen returns true at every list of ranges and every list of texts, and leaves what was there as it was. No conditions.
-/
import Derived.Test.YtdmepdjlfdigeaaKeysOpenW
import Derived.Test.YtdmepdjlfdigeaaOpenRanges
import Derived.Test.YtdmepdjlfdigeaaOpenKeys
namespace Go.Proofs.Ytdmepdjlfdigeaa
open Go.ChangeShapes Go.WideShapes Go.ChangeAt Go.RowKit Go.Joins

/-- A list of texts that came in. -/
theorem open_texts {H : Type} {enc : TypeId × Value → H} {W : World} {base b0 : Nat} {sp : Nat → Bool} {held : Bool} {v : Value} {d : DataW H} {p : List MemPlace}
    (hv : Value.okWide Try.prog W .any base 38 v) (h : DataW.Trod enc Try.prog W b0 sp held 38 v d p) :
    ∃ ao len cap ts, v = .slice ao len cap ∧ Arr W 1 ao len cap (List.map txE ts) ∧ ∀ t ∈ ts, t.size ≤ maxLen := by
  rcases open_slice_plain Try.underlying38 (by kernel_rfl) hv h with ⟨ao, cap, rfl, hm⟩ | ⟨b, off, len, cap, rfl, h2, h3, h4, hc⟩
  · exact ⟨ao, 0, cap, [], rfl, ⟨fun _ h => by simp at h, rfl, Nat.zero_le _, hm, fun h => by omega⟩, fun r hr => by simp at hr⟩
  · obtain ⟨ts, hl, hp⟩ := list_of (fun i (x : ByteArray) => x.size ≤ maxLen ∧ W.cell? ⟨b, off + i, none⟩ = some (.string x)) len (by
      intro i hi
      obtain ⟨n0, y0, u0, c0, t0⟩ := hc i hi
      obtain ⟨s0, q0, _, w0⟩ := DataW.trod_string Try.underlying9 t0
      simp only [List.cons.injEq, and_true] at q0
      subst q0
      exact ⟨s0, w0, c0⟩)
    have hget : ∀ x ∈ ts, ∃ i, ts[i]? = some x := fun x hx => List.mem_iff_getElem?.1 hx
    obtain ⟨x0, hx0⟩ : ∃ x, ts[0]? = some x := ⟨_, List.getElem?_eq_getElem (by omega)⟩
    refine ⟨_, len, cap, ts, rfl, ⟨txE_elems ts, by simpa using hl, h3, h4, fun _ => ⟨b, off, rfl, World.block_lt_of_cell? _ _ (hp 0 x0 hx0).2, ?_⟩⟩, fun x hx => by obtain ⟨i, hi⟩ := hget x hx; exact (hp i x hi).1⟩
    intro i e he j u hu
    rw [List.getElem?_map] at he
    cases hx : ts[i]? with
    | none => rw [hx] at he; cases he
    | some x =>
      rw [hx] at he
      simp only [Option.map_some, Option.some.injEq] at he
      subst he
      match j, hu with
      | 0, hu => simp only [txE, List.getElem?_cons_zero, Option.some.injEq] at hu; subst hu; simpa using (hp i x hx).2
      | j + 1, hu => simp [txE] at hu

theorem keysOpen_walk (H : Type) (enc : TypeId × Value → H) : LawWalk H enc 6 [34, 38] := by
  intro W base args ds p hval hA _ _
  obtain ⟨v0, v1, d0, d1, p0, p1, rfl, rfl, rfl, h0, h1⟩ := trodAll_two hA
  obtain ⟨ao, len, cap, rs, rfl, hr, hok⟩ := open_ranges (hval 0 _ _ rfl rfl) h0
  obtain ⟨ao2, len2, cap2, ts, rfl, ht, hok2⟩ := open_texts (hval 1 _ _ rfl rfl) h1
  exact keysopen_any ao ao2 len cap len2 cap2 rs ts W hr hok ht hok2

set_option maxRecDepth 100000 in
theorem keysOpen_lifted (os : Os) (started : os.Started) (H : Type) (enc : TypeId × Value → H) :
    ReturnsInHanded {} Try.checked os 6 .any (Rows.keysOpenSpec.pre6 enc Try.prog Try.f6 Rows.keysOpenRow.domain false) (Rows.keysOpenSpec.post enc Try.prog Try.f6 false true false false) :=
  lift_law (s := Rows.keysOpenSpec) started _ Try.func6 (by kernel_rfl) rfl rfl Try.underlying4 rfl
    (fun ds h => match ds, h with | [_, _], _ => ⟨rfl, rfl, rfl⟩) (by kernel_rfl)
    (ChangeSpec.witness6 (enc := enc) (C := Try.checked) false ⟨#[], #[.slice none 0 0, .slice none 0 0], []⟩ 8 (by kernel_rfl) (by kernel_rfl) (by kernel_rfl) (by kernel_rfl))
    (keysOpen_walk H enc)

set_option maxRecDepth 100000 in
theorem keysOpen_holds : Rows.KeysOpenSaid :=
  OpenClaim.holds_of_wide 6 Try.f6 rfl rfl rfl rfl rfl rfl rfl ⟨rfl, rfl, rfl, rfl, rfl⟩ rfl rfl rfl rfl rfl (by kernel_rfl) Try.func6 (by kernel_rfl)
    (of_decide_eq_true (by kernel_rfl)) (by unfold Func.isWrapper; rw [if_neg (of_decide_eq_false (by kernel_rfl))]; exact ⟨rfl, rfl⟩)
    (fun os started H enc _ => keysOpen_lifted os started H enc)

#print axioms keysOpen_holds

end Go.Proofs.Ytdmepdjlfdigeaa
