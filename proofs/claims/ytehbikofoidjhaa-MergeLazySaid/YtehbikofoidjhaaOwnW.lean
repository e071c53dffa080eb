/-
  The walk of acreageref04.Own: a copy in memory of its own.
-/
import Derived.Test.YtehbikofoidjhaaCellsSortW
namespace Go.Proofs.Ytehbikofoidjhaa
open Go.RowKit

set_option maxRecDepth 100000 in
set_option maxHeartbeats 1000000 in
theorem own_any (ao : Option Addr) (n cap : Nat) (cs : List CellA) (w : World) (h : Cells w ao n cap cs) (hn : n * 64 ≤ 140737488355328) :
    Calls Try.prog 15 #[.slice ao n cap] w fun e w' => ∃ v, e = .returned v ∧ Own w' w.heap.size v cs ∧ Below w.heap.size w w' := by
  obtain ⟨i0, hi, hz0, hz1, hz2⟩ := info_parts Try.info_cell
  have Hl := Lib.hid h.len
  have H := Lib.hid h
  have Hn := Lib.hid hn
  clear h hn
  go_enter Try.func15, Try.ntmps15
  go_wp2_with (at_builtin; refine wpList_append_arr w rfl _ _ 29 rfl w.heap.size 37 i0 _ 5 64 Try.underlying29 hi hz0 hz1 hz2 rfl (by decide) (.slice none 0 0) 0 [] rfl (Row.nil _ _ _ _) rfl H.out (by have := Hn.out; omega) (by have := Hn.out; unfold maxLen; omega) (Nat.le_refl _) ?_; intro v1 w1 hr1 hb1 hg1)
  go_returns
  exact ⟨_, rfl, by have := Hl.out; unfold Own; rw [this]; simpa using hr1, hb1⟩

end Go.Proofs.Ytehbikofoidjhaa
