/-
  cells.Encode of one cell: whether it may be.
-/
import Derived.Test.YtjalccnkfpjchaaEncW
namespace Go.Proofs.Ytjalccnkfpjchaa
open Go.RowKit

theorem cells_at1 {w : World} {b off n cap k : Nat} {cs : List CellA} {c : CellA} (h : Cells w (some ⟨b, off, none⟩) n cap cs) (hc : cs[k]? = some c) : Cells w (some ⟨b, off + k * 5, none⟩) 1 (cap - k) [c] := by
  obtain ⟨b', off', e, hb, h0, h1, h2, h3, h4⟩ := Cells.at_ h hc
  cases e
  have hl := h.len
  have hk := (List.getElem?_eq_some_iff.1 hc).1
  have hf := Arr.fits h
  have hm := Arr.max h
  refine ⟨cellE_elems _, rfl, by omega, by omega, fun _ => ⟨b, off + k * 5, rfl, hb, fun i e he j u hu => ?_⟩⟩
  have hi : i = 0 := by
    have := (List.getElem?_eq_some_iff.1 he).1
    simp at this; exact this
  subst hi
  simp only [List.map_cons, List.map_nil, List.getElem?_cons_zero, Option.some.injEq] at he
  subst he
  match j, hu with
  | 0, hu => simp [cellE] at hu; subst hu; simpa using h0
  | 1, hu => simp [cellE] at hu; subst hu; simpa using h1
  | 2, hu => simp [cellE] at hu; subst hu; simpa using h2
  | 3, hu => simp [cellE] at hu; subst hu; simpa using h3
  | 4, hu => simp [cellE] at hu; subst hu; simpa using h4
  | j + 5, hu => simp [cellE] at hu
theorem enc_one_len {c : CellA} (h : cellL c = true) : (encL [c]).length ≤ 100000 := by
  obtain ⟨h1, h2, h3, h4, h5⟩ := cellL_sizes h
  have l1 := numW_len c.ver ⟨by omega, by omega⟩
  have a1 : (numL c.row.size).length ≤ 10 := numL_ten (by omega)
  have a2 : (numL c.col.size).length ≤ 10 := numL_ten (by omega)
  have a3 : (numL c.val.size).length ≤ 10 := numL_ten (by omega)
  have a4 : (numL 1).length ≤ 10 := numL_ten (by omega)
  have e1 := size_toList c.row
  have e2 := size_toList c.col
  have e3 := size_toList c.val
  unfold encL encC
  simp only [List.length_append, List.flatMap_cons, List.flatMap_nil, List.length_cons, List.length_nil]
  simp only [Nat.zero_add]
  omega
theorem enc_one (ao : Option Addr) (cap : Nat) (c : CellA) (w : World) (h : Cells w ao 1 cap [c]) (hok : c.Ok) :
    Calls Try.prog 14 #[.slice ao 1 cap] w fun e w' => ∃ s : ByteArray, e = .returned (.tuple #[.string s, .int .i64 (if cellL c then 0 else 2)]) ∧ Below w.heap.size w w' := by
  have hok' : ∀ x ∈ [c], x.Ok := fun x hx => by simp at hx; rw [hx]; exact hok
  cases hc : cellL c with
  | true =>
    refine (encode_good ao 1 cap [c] w h hok' (by simp [badC, hc])).mono ?_
    rintro e w' ⟨he, hb⟩
    rw [if_neg (by have := enc_one_len hc; omega)] at he
    exact ⟨_, he, hb⟩
  | false =>
    refine (encode_bad ao 1 cap [c] w h hok' (by simp [badC, hc])).mono ?_
    rintro e w' ⟨he, hb⟩
    exact ⟨_, he, hb⟩
end Go.Proofs.Ytjalccnkfpjchaa
