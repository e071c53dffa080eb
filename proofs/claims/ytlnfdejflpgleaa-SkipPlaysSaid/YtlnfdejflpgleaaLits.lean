/-
  Lists that are written out, in new memory; the walk of the document's Place (acreageref04).
-/
import Derived.Test.YtlnfdejflpgleaaCellsSortW
namespace Go.Proofs.Ytlnfdejflpgleaa
open Go.RowKit

theorem cells_new (w : World) (T : TypeId) (cs : List CellA) (arr : Array Value) (n b : Nat) (h : arr = (cs.map cellE).flatten.toArray) (hn : cs.length = n) (hm : n ≤ maxLen) (hb : b = w.heap.size) : Cells (w.alloc (.cells arr T)) (some ⟨b, 0, none⟩) n n cs := by
  subst hn
  subst h
  subst hb
  refine ⟨cellE_elems cs, by simp, Nat.le_refl _, hm, fun _ => ⟨w.heap.size, 0, rfl, by rw [World.size_alloc]; omega, ?_⟩⟩
  intro i e he j u hu
  have h1 := flatten_get (Elems.len (cellE_elems cs)) i e he j u hu
  simp only [Nat.zero_add, World.cell?_alloc_new]
  simpa using h1
theorem Own.cells_n {w : World} {B : Nat} {v : Value} {cs : List CellA} (h : Own w B v cs) {n : Nat} (hn : cs.length = n) : ∃ ao cap, v = .slice ao n cap ∧ Cells w ao n cap cs := by
  subst hn
  exact h.cells

theorem Cells.short {w : World} {ao : Option Addr} {n cap k : Nat} {cs : List CellA} (h : Cells w ao n cap cs) (hk : k ≤ n) : Cells w ao k cap (cs.take k) := by
  have := Arr.take h hk
  rw [← List.map_take] at this
  exact this
theorem Cells.below {w w' : World} {ao : Option Addr} {n cap : Nat} {cs : List CellA} (h : Cells w ao n cap cs) (hb : Below w.heap.size w w') : Cells w' ao n cap cs := Arr.below h hb

end Go.Proofs.Ytlnfdejflpgleaa
