/-
  The walk of acreagelaw10.BlockShort.
-/
import Derived.Test.YtfkghpomcaonfaaBlkLawsW
import Derived.Test.YtfkghpomcaonfaaSortAnyW
namespace Go.Proofs.Ytfkghpomcaonfaa
open Go.RowKit

/-- two, and each cell's bytes and sixteen -/
def sumB (cs : List CellA) : Nat → Nat
  | 0 => 2
  | k + 1 => sumB cs k + match cs[k]? with
    | some c => c.row.size + c.col.size + c.val.size + 16
    | none => 0
theorem sumB_succ {cs : List CellA} {k : Nat} {c : CellA} (h : cs[k]? = some c) : sumB cs (k + 1) = sumB cs k + c.row.size + c.col.size + c.val.size + 16 := by rw [sumB, h]; simp only; omega
theorem layL_short {a : List UInt8} {c : CellA} (h : cellL c = true) : (layL a c).length ≤ c.row.size + c.col.size + c.val.size + 13 := by
  obtain ⟨h1, h2, h3, h4, h5⟩ := cellL_sizesB h
  have ha := (alikeL_le a c.row.toList).2
  rw [size_list] at ha
  have n1 := numL_length 0 (alikeL a c.row.toList) (by omega)
  have n2 := numL_length 0 (c.row.toList.drop (alikeL a c.row.toList)).length (by rw [List.length_drop, size_list]; omega)
  have n3 := numL_length 0 c.col.toList.length (by rw [size_list]; omega)
  have n4 : (numW c.ver).length ≤ 6 := numL_length 5 _ (by omega)
  have n5 := numL_length 2 c.val.toList.length (by rw [size_list]; omega)
  have e1 : (c.row.toList.drop (alikeL a c.row.toList)).length ≤ c.row.size := by rw [List.length_drop, size_list]; omega
  have e2 := size_list c.col
  have e3 := size_list c.val
  simp only [layL, txtL, List.length_append, List.length_cons, List.length_nil]
  omega
theorem body_short {s : List UInt8} {cs : List CellA} (h : BlockOf s cs) : ∀ k, k ≤ cs.length → (bodyTo cs k).length + 2 * k + 2 ≤ sumB cs k
  | 0, _ => by simp [bodyTo, sumB]
  | k + 1, hk => by
    have ih := body_short h k (by omega)
    have hc : cs[k]? = some cs[k] := List.getElem?_eq_getElem (by omega)
    have := layL_short (a := (aheadB cs k).toList) (wrongB_false h.good k _ hc).1
    rw [bodyTo_succ hc, sumB_succ hc, List.length_append]
    omega
theorem block_short {s : List UInt8} {cs : List CellA} (h : BlockOf s cs) : (blockL cs).length ≤ sumB cs cs.length := by
  have := body_short h cs.length (Nat.le_refl _)
  have hp := placesTo_len cs cs.length
  rw [blockL, List.length_append, List.length_append, hp]
  simp only [twoL, List.length_cons, List.length_nil]
  omega
theorem sumB_le {s : List UInt8} {cs : List CellA} (h : BlockOf s cs) : ∀ k, k ≤ cs.length → sumB cs k ≤ 2 + 65600 * k
  | 0, _ => by simp [sumB]
  | k + 1, hk => by
    have ih := sumB_le h k (by omega)
    have hc : cs[k]? = some cs[k] := List.getElem?_eq_getElem (by omega)
    obtain ⟨h1, h2, h3, h4, h5⟩ := cellL_sizesB (wrongB_false h.good k _ hc).1
    rw [sumB_succ hc]
    omega
theorem buildR_err {cs : List CellA} (h : (buildR cs).2 ≠ 0) : (buildR cs).1 = [] := by
  unfold buildR at h ⊢
  split
  · rfl
  · rename_i h1; rw [if_neg h1] at h
    split
    · rfl
    · rename_i h2; rw [if_neg h2] at h
      split
      · rfl
      · rename_i h3; rw [if_neg h3] at h; exact absurd rfl h
theorem buildR_ok {cs : List CellA} (h : (buildR cs).2 = 0) : BlockOf (blockL cs) cs ∧ (buildR cs).1 = blockL cs := by
  unfold buildR at h ⊢
  split
  · rename_i h1; rw [if_pos h1] at h; cases h
  · rename_i h1; rw [if_neg h1] at h
    split
    · rename_i h2; rw [if_pos h2] at h; cases h
    · rename_i h2; rw [if_neg h2] at h
      split
      · rename_i h3; rw [if_pos h3] at h; cases h
      · rename_i h3
        exact ⟨⟨by simpa using h1, by omega, by omega, rfl⟩, rfl⟩
theorem Cells.take {w : World} {ao : Option Addr} {n cap : Nat} {cs : List CellA} (h : Cells w ao n cap cs) (k : Nat) (hk : k ≤ n) : Cells w ao k cap (cs.take k) := by
  have hl := h.len
  have hf := Arr.fits h
  have hm := Arr.max h
  unfold Cells at *
  rw [List.map_take]
  refine ⟨fun e he => h.1 e (List.mem_of_mem_take he), by rw [List.length_take, List.length_map]; omega, by omega, hm, fun h0 => ?_⟩
  obtain ⟨b, off, e1, e2, e3⟩ := h.5 (by omega)
  exact ⟨b, off, e1, e2, fun i e he j u hu => e3 i e (by rw [List.getElem?_take] at he; split at he; exact he; cases he) j u hu⟩
end Go.Proofs.Ytfkghpomcaonfaa
