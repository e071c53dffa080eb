/-
  The walk of the document's Place (acreageref04).
-/
import Derived.Test.YtehbikofoidjhaaCompactW
namespace Go.Proofs.Ytehbikofoidjhaa
open Go.RowKit

set_option maxHeartbeats 1000000 in
theorem rplace_raw (ar ac : ByteArray) (av : Int) (ag : Bool) (al br bc : ByteArray) (bv : Int) (bg : Bool) (bl : ByteArray) (w : World) :
    Calls Try.prog 44 #[.agg #[.string ar, .string ac, .int .u64 av, .bool ag, .string al], .agg #[.string br, .string bc, .int .u64 bv, .bool bg, .string bl]] w
      fun e w' => e = .returned (.bool (decide (br.toList = ar.toList) && decide (bc.toList = ac.toList))) ∧ Below w.heap.size w w' := by
  by_cases e1 : ar = br
  · subst e1
    by_cases e2 : ac = bc
    · subst e2
      go_enter Try.func44, Try.ntmps44
      go_wp2
      go_returns
      exact ⟨ret_bool (by simp), by go_grown⟩
    · have n2 : ¬ ac.toList = bc.toList := fun h => e2 (toList_inj.1 h)
      have n4 : ¬ bc.toList = ac.toList := fun h => e2 (toList_inj.1 h.symm)
      have n3 : (ac.toList == bc.toList) = false := by simpa using n2
      go_enter Try.func44, Try.ntmps44
      go_wp2
      go_returns
      exact ⟨ret_bool (by simp [n4]), by go_grown⟩
  · have n2 : ¬ ar.toList = br.toList := fun h => e1 (toList_inj.1 h)
    have n4 : ¬ br.toList = ar.toList := fun h => e1 (toList_inj.1 h.symm)
    have n3 : (ar.toList == br.toList) = false := by simpa using n2
    go_enter Try.func44, Try.ntmps44
    go_wp2
    go_returns
    exact ⟨ret_bool (by simp [n4]), by go_grown⟩
theorem rplace_any (a b : CellA) (w : World) :
    Calls Try.prog 44 #[a.v, b.v] w fun e w' => e = .returned (.bool (samePl b a)) ∧ Below w.heap.size w w' := rplace_raw _ _ _ _ _ _ _ _ _ _ w

end Go.Proofs.Ytehbikofoidjhaa
