/-
  The walks of package keys: what each call returns; the world below the heap's size stays as it was. No conditions but those stated.
-/
import Derived.Test.YteibnignjghedaaRows
import Derived.Test.YteibnignjghedaaPlain
import Derived.Test.YteibnignjghedaaQuiet
import Derived.WalkKit
import Derived.WalkSpells
import Derived.WalkLawsBesides
import Derived.BigQuiet
import Derived.Deep.QuietTactic
import Derived.Lib.Hide
import Derived.Lib.SmallJoins
import Derived.Handy
namespace Go.Proofs.Yteibnignjghedaa
open Go.RowKit

set_option maxHeartbeats 400000 in
theorem has_any (lo hi key : ByteArray) (w : World) :
    Calls Try.prog 45 #[.agg #[.string lo, .string hi], .string key] w fun e w' => e = .returned (.bool (hasL lo.toList hi.toList key.toList)) ∧ Below w.heap.size w w' := by
  go_enter Try.func45, Try.ntmps45
  go_wp2
  all_goals (go_ret; exact ⟨by simp_all [hasL, less_eq], (Below.refl _ _).alloc (Nat.le_refl _) _⟩)

def errB (b : Bool) : Int := if b then 0 else 2
theorem check_close (lo hi : ByteArray) (v : Int) (h : v = errB (mayL lo.toList hi.toList)) : Ending.returned (.int .i64 v) = .returned (.int .i64 (errB (mayL lo.toList hi.toList))) := by rw [h]
set_option maxHeartbeats 400000 in
theorem check_any (lo hi : ByteArray) (w : World) (hl : lo.size ≤ maxLen) (hh : hi.size ≤ maxLen) :
    Calls Try.prog 38 #[.agg #[.string lo, .string hi]] w fun e w' => e = .returned (.int .i64 (errB (mayL lo.toList hi.toList))) ∧ Below w.heap.size w w' := by
  unfold maxLen at hl hh
  go_enter Try.func38, Try.ntmps38
  go_wp2
  all_goals (go_ret; refine ⟨check_close _ _ _ ?_, (Below.refl _ _).alloc (Nat.le_refl _) _⟩)
  all_goals (simp only [less_eq, size_toList] at *; grind [errB, mayL])

end Go.Proofs.Yteibnignjghedaa
