/-
  The walk of keys.Meet.
-/
import Derived.Test.YteibnignjghedaaKeysW
import Derived.Lib.MinMaxS
namespace Go.Proofs.Yteibnignjghedaa
open Go.RowKit

theorem maxS_toList (a b : ByteArray) : (Lib.maxS a b).toList = maxL a.toList b.toList := by
  simp only [Lib.maxS, maxL, Lib.toList_data]; split <;> simp [Lib.toList_data]

set_option maxHeartbeats 1000000 in
theorem meet_any (al ah bl bh : ByteArray) (w : World) :
    Calls Try.prog 23 #[.agg #[.string al, .string ah], .agg #[.string bl, .string bh]] w fun e w' => e = .returned (.bool (meetL al.toList ah.toList bl.toList bh.toList)) ∧ Below w.heap.size w w' := by
  have hmax := fun w ts => Lib.run_max_strs (P := Try.prog) w ts 9 al bl
  have hlow := maxS_toList al bl
  generalize Lib.maxS al bl = low at *
  go_enter Try.func23, Try.ntmps23
  go_wp2_with (first | (go_at_call 45; refine (has_any _ _ _ _).mono ?_; rintro e w1 ⟨rfl, hb⟩; obtain ⟨hB, hS, hk⟩ := after (B := w.heap.size) (w := w) (by go_grown) (by go_size) hb; clear hb; obtain ⟨c0, f0, z0⟩ := hk (w.heap.size) (by go_size); obtain ⟨c1, f1, z1⟩ := hk (w.heap.size + 1) (by go_size); clear hk))
  all_goals (go_returns; exact ⟨by simp [meetL, *], by go_grown⟩)

theorem sizes_small (l : List UInt8) (h : l.length ≤ 1000) : (⟨l.toArray⟩ : ByteArray).size ≤ maxLen := by
  unfold maxLen; show l.toArray.size ≤ _; simp; omega

end Go.Proofs.Yteibnignjghedaa
