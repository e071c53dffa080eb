/-
  Lists that are written out, in new memory; the walk of the document's Place (acreageref04).
-/
import Derived.Test.YtehbikofoidjhaaCellsSortW
namespace Go.Proofs.Ytehbikofoidjhaa
open Go.RowKit

theorem cells_new (w : World) (T : TypeId) (cs : List CellA) (arr : Array Value) (n b : Nat) (h : arr = (cs.map cellE).flatten.toArray) (hn : cs.length = n) (hm : n ≤ maxLen) (hb : b = w.heap.size) : Cells (w.alloc (.cells arr T)) (some ⟨b, 0, none⟩) n n cs := by
  subst hn
  subst h
  subst hb
  refine ⟨cellE_elems cs, by simp, Nat.le_refl _, hm, fun _ => ⟨w.heap.size, 0, rfl, by rw [World.size_alloc]; omega, ?_⟩⟩
  intro i e he j u hu
  have h1 := flatten_get (Elems.len (cellE_elems cs)) i e he j u hu
  simp only [Nat.zero_add, World.cell?_alloc_new]
  simpa using h1
theorem Own.cells_n {w : World} {B : Nat} {v : Value} {cs : List CellA} (h : Own w B v cs) {n : Nat} (hn : cs.length = n) : ∃ ao cap, v = .slice ao n cap ∧ Cells w ao n cap cs := by
  subst hn
  exact h.cells

theorem Cells.short {w : World} {ao : Option Addr} {n cap k : Nat} {cs : List CellA} (h : Cells w ao n cap cs) (hk : k ≤ n) : Cells w ao k cap (cs.take k) := by
  have := Arr.take h hk
  rw [← List.map_take] at this
  exact this
theorem Cells.below {w w' : World} {ao : Option Addr} {n cap : Nat} {cs : List CellA} (h : Cells w ao n cap cs) (hb : Below w.heap.size w w') : Cells w' ao n cap cs := Arr.below h hb

set_option maxHeartbeats 1000000 in
theorem rplace_raw (ar ac : ByteArray) (av : Int) (ag : Bool) (al br bc : ByteArray) (bv : Int) (bg : Bool) (bl : ByteArray) (w : World) :
    Calls Try.prog 44 #[.agg #[.string ar, .string ac, .int .u64 av, .bool ag, .string al], .agg #[.string br, .string bc, .int .u64 bv, .bool bg, .string bl]] w
      fun e w' => e = .returned (.bool (decide (br.toList = ar.toList) && decide (bc.toList = ac.toList))) ∧ Below w.heap.size w w' := by
  by_cases e1 : ar = br
  · subst e1
    by_cases e2 : ac = bc
    · subst e2
      go_enter Try.func44, Try.ntmps44
      go_wp2
      go_returns
      exact ⟨ret_bool (by simp), by go_grown⟩
    · have n2 : ¬ ac.toList = bc.toList := fun h => e2 (toList_inj.1 h)
      have n4 : ¬ bc.toList = ac.toList := fun h => e2 (toList_inj.1 h.symm)
      have n3 : (ac.toList == bc.toList) = false := by simpa using n2
      go_enter Try.func44, Try.ntmps44
      go_wp2
      go_returns
      exact ⟨ret_bool (by simp [n4]), by go_grown⟩
  · have n2 : ¬ ar.toList = br.toList := fun h => e1 (toList_inj.1 h)
    have n4 : ¬ br.toList = ar.toList := fun h => e1 (toList_inj.1 h.symm)
    have n3 : (ar.toList == br.toList) = false := by simpa using n2
    go_enter Try.func44, Try.ntmps44
    go_wp2
    go_returns
    exact ⟨ret_bool (by simp [n4]), by go_grown⟩
theorem rplace_any (a b : CellA) (w : World) :
    Calls Try.prog 44 #[a.v, b.v] w fun e w' => e = .returned (.bool (samePl b a)) ∧ Below w.heap.size w w' := rplace_raw _ _ _ _ _ _ _ _ _ _ w

end Go.Proofs.Ytehbikofoidjhaa
