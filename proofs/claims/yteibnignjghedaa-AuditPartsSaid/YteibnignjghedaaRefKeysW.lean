/-
  The walks of the document's answers for keys (acreageref03).
-/
import Derived.Test.YteibnignjghedaaMeetW
namespace Go.Proofs.Yteibnignjghedaa
open Go.RowKit


def userL (key : List UInt8) : Bool := decide (key ≠ []) && decide (key.length ≤ 24)
def storedL (key : List UInt8) : Bool := decide (key.length ≤ 32)

set_option maxHeartbeats 400000 in
theorem rhas_any (lo hi key : ByteArray) (w : World) :
    Calls Try.prog 54 #[.agg #[.string lo, .string hi], .string key] w fun e w' => e = .returned (.bool (hasL lo.toList hi.toList key.toList)) ∧ Below w.heap.size w w' := by
  go_enter Try.func54, Try.ntmps54
  go_wp2
  all_goals (go_ret; exact ⟨by simp_all [hasL, less_eq], by go_grown⟩)

theorem may_close (lo hi : ByteArray) (v : Bool) (h : v = mayL lo.toList hi.toList) : Ending.returned (.bool v) = .returned (.bool (mayL lo.toList hi.toList)) := by rw [h]
set_option maxHeartbeats 400000 in
theorem rmay_any (lo hi : ByteArray) (w : World) (hl : lo.size ≤ maxLen) (hh : hi.size ≤ maxLen) :
    Calls Try.prog 55 #[.agg #[.string lo, .string hi]] w fun e w' => e = .returned (.bool (mayL lo.toList hi.toList)) ∧ Below w.heap.size w w' := by
  unfold maxLen at hl hh
  go_enter Try.func55, Try.ntmps55
  go_wp2
  all_goals (go_ret; refine ⟨may_close _ _ _ ?_, by go_grown⟩)
  all_goals (simp only [less_eq, size_toList] at *; grind [mayL])

set_option maxHeartbeats 400000 in
theorem rcheck_any (lo hi : ByteArray) (w : World) (hl : lo.size ≤ maxLen) (hh : hi.size ≤ maxLen) :
    Calls Try.prog 50 #[.agg #[.string lo, .string hi]] w fun e w' => e = .returned (.int .i64 (errB (mayL lo.toList hi.toList))) ∧ Below w.heap.size w w' := by
  go_enter Try.func50, Try.ntmps50
  go_wp2_with (first | (go_at_call 55; refine (rmay_any _ _ _ hl hh).mono ?_; rintro e w1 ⟨rfl, hb⟩; obtain ⟨hB, hS, hk⟩ := after (B := w.heap.size) (w := w) (by go_grown) (by go_size) hb; clear hb; obtain ⟨c0, f0, z0⟩ := hk (w.heap.size) (by go_size); clear hk))
  all_goals (go_ret; exact ⟨ret_int (by grind [errB]), by go_grown⟩)

set_option maxHeartbeats 1000000 in
theorem rmeet_any (al ah bl bh : ByteArray) (w : World) :
    Calls Try.prog 29 #[.agg #[.string al, .string ah], .agg #[.string bl, .string bh]] w fun e w' => e = .returned (.bool (meetL al.toList ah.toList bl.toList bh.toList)) ∧ Below w.heap.size w w' := by
  by_cases hlt : al.toList < bl.toList
  · have g1 : Op.bytesLess al.toList bl.toList = true := by rw [less_eq]; simpa using hlt
    have g2 : (bl.toList == al.toList) = false := by simp; grind
    have g3 : Op.bytesLess bl.toList al.toList = false := by rw [less_eq]; simp; grind
    have hv : maxL al.toList bl.toList = bl.toList := by simp [maxL, hlt]
    have Hv := Lib.hid hv
    clear hlt hv
    go_enter Try.func29, Try.ntmps29
    go_wp2_with (first | (go_at_call 54; refine (rhas_any _ _ _ _).mono ?_; rintro e w1 ⟨rfl, hb⟩; obtain ⟨hB, hS, hk⟩ := after (B := w.heap.size) (w := w) (by go_grown) (by go_size) hb; clear hb; obtain ⟨c0, f0, z0⟩ := hk (w.heap.size) (by go_size); obtain ⟨c1, f1, z1⟩ := hk (w.heap.size + 1) (by go_size); clear hk))
    all_goals (go_returns; exact ⟨by simp [meetL, Hv.out, *], by go_grown⟩)
  · have g1 : Op.bytesLess al.toList bl.toList = false := by rw [less_eq]; simpa using hlt
    have g2 : (Op.bytesLess bl.toList al.toList || bl.toList == al.toList) = true := le_true _ _ hlt
    have hv : maxL al.toList bl.toList = al.toList := by simp [maxL, hlt]
    have Hv := Lib.hid hv
    clear hlt hv
    go_enter Try.func29, Try.ntmps29
    go_wp2_with (first | (go_at_call 54; refine (rhas_any _ _ _ _).mono ?_; rintro e w1 ⟨rfl, hb⟩; obtain ⟨hB, hS, hk⟩ := after (B := w.heap.size) (w := w) (by go_grown) (by go_size) hb; clear hb; obtain ⟨c0, f0, z0⟩ := hk (w.heap.size) (by go_size); obtain ⟨c1, f1, z1⟩ := hk (w.heap.size + 1) (by go_size); clear hk))
    all_goals (go_returns; exact ⟨by simp [meetL, Hv.out, *], by go_grown⟩)

end Go.Proofs.Yteibnignjghedaa
